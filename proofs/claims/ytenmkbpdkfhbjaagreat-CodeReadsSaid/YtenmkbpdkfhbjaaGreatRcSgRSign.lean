/- ostraconref01.collide.; ostraconref01.sign. Made by gen_rsign.py. -/
import Derived.Test.YtenmkbpdkfhbjaaGreatRcSgMeet
import Derived.Test.YtenmkbpdkfhbjaaGreatRcSgCheck
namespace Go.Proofs.YtenmkbpdkfhbjaaGreat
open Go Go.RowKit

set_option maxRecDepth 100000 in
set_option maxHeartbeats 2000000 in
theorem r1collide_any (a b : Sg.Value) (w : World) : Calls Tryz.prog 88 #[.agg #[.int .i64 a.kind, .string a.text, .int .i64 a.lo, .int .i64 a.hi], .agg #[.int .i64 b.kind, .string b.text, .int .i64 b.lo, .int .i64 b.hi]] w (RetBB (Sg.meetB a b) w) := by
 obtain ⟨ka, sa, la, ua⟩ := a
 obtain ⟨kb, sb, lb, ub⟩ := b
 have HB : Hid (Below w.heap.size w ((w.alloc (.cells #[.int .i64 ka, .string sa, .int .i64 la, .int .i64 ua] 103)).alloc (.cells #[.int .i64 kb, .string sb, .int .i64 lb, .int .i64 ub] 103))) := Lib.hid (((Below.refl _ _).alloc (Nat.le_refl _) _).alloc (by simp) _)
 by_cases hk : ka = kb
 ·subst hk
  by_cases hs : sa = sb
  ·subst hs
   have HM : Hid (Sg.meetB ⟨ka, sa, la, ua⟩ ⟨ka, sa, lb, ub⟩ = (decide (la ≤ ub) && decide (lb ≤ ua))) := Lib.hid (by simp [Sg.meetB])
   by_cases h1 : la ≤ ub
   ·by_cases h2 : lb ≤ ua
    ·have HF := Lib.hid (HM.out.trans (by simp [h1, h2] : _ = true))
     go_enter Tryz.func88, Tryz.ntmps88
     go_wp2_with fail
     go_ret
     exact ⟨ret_bool (by rw [HF.out]), HB.out⟩
    ·have HF := Lib.hid (HM.out.trans (by simp [h1, h2] : _ = false))
     go_enter Tryz.func88, Tryz.ntmps88
     go_wp2_with fail
     go_ret
     exact ⟨ret_bool (by rw [HF.out]; try simp), HB.out⟩
   ·have HF := Lib.hid (HM.out.trans (by simp [h1] : _ = false))
    go_enter Tryz.func88, Tryz.ntmps88
    go_wp2_with fail
    go_ret
    exact ⟨ret_bool (by rw [HF.out]), HB.out⟩
  ·have ht : (sa.toList == sb.toList) = false := Lx.toList_ne hs
   have HF : Hid (Sg.meetB ⟨ka, sa, la, ua⟩ ⟨ka, sb, lb, ub⟩ = false) := Lib.hid (by simp [Sg.meetB, hs])
   clear hs
   go_enter Tryz.func88, Tryz.ntmps88
   go_wp2_with fail
   go_ret
   exact ⟨ret_bool (by rw [HF.out]), HB.out⟩
 ·have hk' : (ka == kb) = false := by rw [beq_eq_false_iff_ne]; exact hk
  have HF : Hid (Sg.meetB ⟨ka, sa, la, ua⟩ ⟨kb, sb, lb, ub⟩ = false) := Lib.hid (by simp [Sg.meetB, hk])
  go_enter Tryz.func88, Tryz.ntmps88
  go_wp2_with fail
  go_ret
  exact ⟨ret_bool (by rw [HF.out]), HB.out⟩
end Go.Proofs.YtenmkbpdkfhbjaaGreat
namespace Go.Proofs.YtenmkbpdkfhbjaaGreat
open Go Go.RowKit

theorem Sg.meet_comm (a b : Sg.Value) : Sg.meetB a b = Sg.meetB b a := by
 unfold Sg.meetB
 rw [Bool.eq_iff_iff]
 simp only [Bool.and_eq_true, decide_eq_true_eq]
 constructor
 ·rintro ⟨⟨⟨h1, h2⟩, h3⟩, h4⟩; exact ⟨⟨⟨h1.symm, h2.symm⟩, h4⟩, h3⟩
 ·rintro ⟨⟨⟨h1, h2⟩, h3⟩, h4⟩; exact ⟨⟨⟨h1.symm, h2.symm⟩, h4⟩, h3⟩
structure RsnR (T0 : Array Value) (W0 : World) (xb vb bv ov : Nat) (nv c2 k : Nat) (y z : Sg.Value) (q : Bool) (d : Array Bool) (t : Array Value) (wc : World) : Prop where
 bel : Below W0.heap.size W0 wc
 siz : t.size = 86
 kp : ∀ i, i ∉ ([79, 80, 81, 82, 83, 84, 85] : List Nat) → t[i]? = T0[i]?
 k2 : t[2]? = some (.pointer (some ⟨xb, 0, none⟩))
 k6 : t[6]? = some (.pointer (some ⟨vb, 0, none⟩))
 k7 : t[7]? = some (.int .i64 k)
 p0 : dn d 0 → t[79]? = some (.pointer (some ⟨xb, 4, none⟩))
 p1 : dn d 1 → t[80]? = some (.slice (some ⟨bv, ov, none⟩) nv c2)
 p2 : dn d 2 → t[81]? = some (.int .i64 k)
 p3 : dn d 3 → t[82]? = some (.pointer (some ⟨bv, ov + k * 4, none⟩))
 p4 : dn d 4 → t[83]? = some (.agg #[.int .i64 z.kind, .string z.text, .int .i64 z.lo, .int .i64 z.hi])
 p5 : dn d 5 → t[84]? = some (.agg #[.int .i64 y.kind, .string y.text, .int .i64 y.lo, .int .i64 y.hi])
 p6 : dn d 6 → t[85]? = some (.bool q)
def RsnI (T0 : Array Value) (W0 : World) (xb vb bv ov : Nat) (nv c2 k : Nat) (y z : Sg.Value) (q : Bool) (d : Array Bool) (a : Act) (wc : World) : Prop := ∃ t : Array Value, a = ⟨t, []⟩ ∧ RsnR T0 W0 xb vb bv ov nv c2 k y z q d t wc

set_option maxRecDepth 100000 in
set_option maxHeartbeats 8000000 in
theorem r1sign_any (s : Sg.Sign) (uv : Value) (p : Int) (w : World) (hrd : RdS w w.heap.size 4 encValue uv s.values) (hfv : ∀ v ∈ s.values, Sg.Value.fits v) :
  Calls Tryz.prog 65 #[.agg #[.string s.code, .int .i64 s.wide, .int .i64 s.high, .bool s.even, uv], .int .i64 p] w (RetIB (Sg.bodyV p s) w) := by
 obtain ⟨A2, c2, rfl, hvc, hvm⟩ := rds_form hrd
 have HRV := Lib.hid hrd
 have HFV := Lib.hid hfv
 have HBX : Hid (Below w.heap.size w (w.alloc (.cells #[.string s.code, .int .i64 s.wide, .int .i64 s.high, .bool s.even, .slice A2 s.values.length c2] 66))) := Lib.hid ((Below.refl _ _).alloc (Nat.le_refl _) _)
 clear hrd hfv
 by_cases hsz : Sg.sizeBad s
 ·have HV : Hid (Sg.bodyV p s = 11) := Lib.hid (by unfold Sg.bodyV; rw [if_pos hsz])
  have hor : s.wide < 1 ∨ (¬ s.wide < 1 ∧ 12 < s.wide) ∨ (¬ s.wide < 1 ∧ ¬ 12 < s.wide ∧ s.high < 1) ∨ (¬ s.wide < 1 ∧ ¬ 12 < s.wide ∧ ¬ s.high < 1 ∧ 12 < s.high) := by unfold Sg.sizeBad at hsz; omega
  clear hsz
  rcases hor with q1 | ⟨q1, q2⟩ | ⟨q1, q2, q3⟩ | ⟨q1, q2, q3, q4⟩
  all_goals
   go_enter Tryz.func65, Tryz.ntmps65
   go_wp2_with fail
   go_ret
   exact ⟨ret_int HV.out.symm, HBX.out⟩
 have HSZ := Lib.hid hsz
 obtain ⟨q1, q2, q3, q4⟩ : ¬ s.wide < 1 ∧ ¬ 12 < s.wide ∧ ¬ s.high < 1 ∧ ¬ 12 < s.high := by unfold Sg.sizeBad at hsz; omega
 clear hsz
 by_cases hmv : 12 < s.values.length
 ·have HV : Hid (Sg.bodyV p s = 2) := Lib.hid (by unfold Sg.bodyV; rw [if_neg HSZ.out, if_pos hmv])
  have j1 : (12 : Int) < (s.values.length : Int) := by omega
  clear hmv
  go_enter Tryz.func65, Tryz.ntmps65
  go_wp2_with fail
  go_ret
  exact ⟨ret_int HV.out.symm, HBX.out⟩
 have HSV : Hid (Sg.bodyV p s = Sg.firstE (Sg.valueAt p s.values) s.values.length) := Lib.hid (by unfold Sg.bodyV; rw [if_neg HSZ.out, if_neg hmv]; rfl)
 have j1 : ¬ (12 : Int) < (s.values.length : Int) := by omega
 have j2 : s.values.length ≤ 12 := by omega
 clear hmv
 go_enter Tryz.func65, Tryz.ntmps65
 go_wp2_with fail
 clear q1 q2 q3 q4
 go_loopg [5] s.values.length (fun g i wr => ∃ j : Nat, j ≤ s.values.length ∧ g = s.values.length - j ∧ i = .int .i64 j ∧ Below (w.heap.size + 1) (w.alloc (.cells #[.string s.code, .int .i64 s.wide, .int .i64 s.high, .bool s.even, .slice A2 s.values.length c2] 66)) wr ∧ ∀ i, i < j → Sg.valueAt p s.values i = 0)
 case atStart => exact ⟨0, Nat.zero_le _, rfl, rfl, Below.refl _ _, fun j hj => absurd hj (Nat.not_lt_zero j)⟩
 case round =>
  obtain ⟨j, hj, rfl, rfl, hbel, hgj⟩ := hrel
  have HBJ := Lib.hid hbel
  have HGJ := Lib.hid hgj
  have hszr : w.heap.size < wr.heap.size := by have := hbel.size; simp at this; omega
  have hxb : wr.heap[w.heap.size]? = some (.cells #[.string s.code, .int .i64 s.wide, .int .i64 s.high, .bool s.even, .slice A2 s.values.length c2] 66 (0, 0)) := (hbel.block _ (by omega)).trans (heap_alloc_new _ _)
  have HXB := Lib.hid hxb
  have HBW := Lib.hid (HBX.out.trans (hbel.mono (Nat.le_succ _)))
  have x4 : wr.cell? ⟨w.heap.size, 4, none⟩ = some (.slice A2 s.values.length c2) := by simp [World.cell?, hxb]
  clear hbel hgj hxb
  by_cases hltj : j < s.values.length
  ·obtain ⟨y, hy⟩ : ∃ y, s.values[j]? = some y := ⟨_, List.getElem?_eq_getElem hltj⟩
   obtain ⟨bv, ov, rfl, hbv, hcv⟩ := RdX.four HRV.out (by omega)
   obtain ⟨g0, g1, g2, g3⟩ := hcv j y hy
   have f0 := (HBW.out.cell (p := ⟨bv, ov + j * 4, none⟩) hbv).trans g0
   have f1 := (HBW.out.cell (p := ⟨bv, ov + j * 4 + 1, none⟩) hbv).trans g1
   have f2 := (HBW.out.cell (p := ⟨bv, ov + j * 4 + 2, none⟩) hbv).trans g2
   have f3 := (HBW.out.cell (p := ⟨bv, ov + j * 4 + 3, none⟩) hbv).trans g3
   have hfy : y.text.size ≤ maxLen := HFV.out y (List.mem_of_getElem? hy)
   have HVA := Lib.hid (Sg.valueAt_of (p := p) hy)
   have HCVV := Lib.hid hcv
   have HE : Hid (∀ e, Sg.valueAt p s.values j = e → e ≠ 0 → Sg.bodyV p s = e) := Lib.hid fun e he h0 => by
    rw [HSV.out, ← he]
    exact Sg.firstE_at hltj HGJ.out (by rw [he]; exact h0)
   obtain ⟨W2, hW2⟩ : ∃ W2, W2 = wr.alloc (.cells #[.int .i64 y.kind, .string y.text, .int .i64 y.lo, .int .i64 y.hi] 103) := ⟨_, rfl⟩
   have hvb : W2.heap[wr.heap.size]? = some (.cells #[.int .i64 y.kind, .string y.text, .int .i64 y.lo, .int .i64 y.hi] 103 (0, 0)) := by rw [hW2]; exact heap_alloc_new _ _
   have hb2 : Below wr.heap.size wr W2 := by rw [hW2]; exact (Below.refl _ _).alloc (Nat.le_refl _) _
   have hsz2 : wr.heap.size < W2.heap.size := by rw [hW2]; simp
   have HBV3 : Hid (Below w.heap.size w W2) := Lib.hid (HBW.out.trans (hb2.mono (by omega)))
   have HB2 := Lib.hid hb2
   have HXB2 : Hid (W2.heap[w.heap.size]? = some (.cells #[.string s.code, .int .i64 s.wide, .int .i64 s.high, .bool s.even, .slice (some ⟨bv, ov, none⟩) s.values.length c2] 66 (0, 0))) := Lib.hid ((hb2.block _ hszr).trans HXB.out)
   have HVB := Lib.hid hvb
   have y0 : W2.cell? ⟨wr.heap.size, 0, none⟩ = some (.int .i64 y.kind) := by simp [World.cell?, hvb]
   have y1 : W2.cell? ⟨wr.heap.size, 1, none⟩ = some (.string y.text) := by simp [World.cell?, hvb]
   have y2 : W2.cell? ⟨wr.heap.size, 2, none⟩ = some (.int .i64 y.lo) := by simp [World.cell?, hvb]
   have y3 : W2.cell? ⟨wr.heap.size, 3, none⟩ = some (.int .i64 y.hi) := by simp [World.cell?, hvb]
   have HW2 := Lib.hid hW2
   have hjI : (0 : Int) ≤ (j : Int) := by omega
   have hjJ : (j : Int) < (s.values.length : Int) := by omega
   clear hW2 hvb hb2 hcv hy g0 g1 g2 g3
   go_upto_region 9 with fail
   rw [← HW2.out]
   clear f0 f1 f2 f3 x4
   by_cases hk : 1 ≤ y.kind ∧ y.kind ≤ 3
   case neg =>
    have HV : Hid (Sg.bodyV p s = 12) := Lib.hid (HE.out 12 (by rw [HVA.out]; unfold Sg.valueV; rw [if_pos (by omega)]) (by decide))
    have hor : y.kind < 1 ∨ (¬ y.kind < 1 ∧ 3 < y.kind) := by omega
    clear hk
    rcases hor with q1 | ⟨q1, q2⟩
    all_goals
     go_wp2_with fail
     go_ret
     exact ⟨ret_int HV.out.symm, HBV3.out⟩
   obtain ⟨hk1, hk2⟩ := hk
   have hk1' : ¬ y.kind < 1 := by omega
   have hk2' : ¬ 3 < y.kind := by omega
   cases ht : Sg.textB y.kind y.text
   ·have HV : Hid (Sg.bodyV p s = 12) := Lib.hid (HE.out 12 (by rw [HVA.out]; unfold Sg.valueV; rw [if_pos (.inr (.inr ht))]) (by decide))
    have HT := Lib.hid ht
    clear ht
    go_wp2_with fail
    refine (r1Right_any y.kind y.text _ hfy).mono ?_
    rw [HT.out]
    rintro e w1 ⟨rfl, rfl⟩
    go_wp2_with fail
    go_ret
    exact ⟨ret_int HV.out.symm, HBV3.out⟩
   have HT := Lib.hid ht
   have HG1 : Hid (¬ (y.kind < 1 ∨ 3 < y.kind ∨ Sg.textB y.kind y.text = false)) := Lib.hid (by rw [ht]; simp; omega)
   clear ht
   by_cases hp : 1 ≤ y.lo ∧ y.lo ≤ y.hi ∧ y.hi ≤ p
   case neg =>
    have HV : Hid (Sg.bodyV p s = 13) := Lib.hid (HE.out 13 (by rw [HVA.out]; unfold Sg.valueV; rw [if_neg HG1.out, if_pos (by omega)]) (by decide))
    have hor : y.lo < 1 ∨ (¬ y.lo < 1 ∧ y.hi < y.lo) ∨ (¬ y.lo < 1 ∧ ¬ y.hi < y.lo ∧ p < y.hi) := by omega
    clear hp
    rcases hor with i1 | ⟨i1, i2⟩ | ⟨i1, i2, i3⟩
    all_goals
     go_wp2_with fail
     refine (r1Right_any y.kind y.text _ hfy).mono ?_
     rw [HT.out]
     rintro e w1 ⟨rfl, rfl⟩
     go_wp2_with fail
     go_ret
     exact ⟨ret_int HV.out.symm, HBV3.out⟩
   obtain ⟨e1, e2, e3⟩ := hp
   have HVV : Hid (Sg.valueAt p s.values j = if (s.values.take j).any (Sg.meetB y) then 12 else 0) := Lib.hid (by rw [HVA.out]; unfold Sg.valueV; rw [if_neg HG1.out, if_neg (by omega)])
   have i1 : ¬ y.lo < 1 := by omega
   have i2 : ¬ y.hi < y.lo := by omega
   have i3 : ¬ p < y.hi := by omega
   go_wp2_with fail
   refine (r1Right_any y.kind y.text _ hfy).mono ?_
   rw [HT.out]
   rintro e w1 ⟨rfl, rfl⟩
   go_wp2_with fail
   clear y0 y1 y2 y3 hk1 hk2 hk1' hk2' e1 e2 e3 i1 i2 i3
   go_loopg [7] j (fun g i wi => ∃ k : Nat, k ≤ j ∧ g = j - k ∧ i = .int .i64 k ∧ Below W2.heap.size W2 wi ∧ ∀ i z, i < k → s.values[i]? = some z → Sg.meetB y z = false)
   case atStart => exact ⟨0, Nat.zero_le _, rfl, rfl, Below.refl _ _, fun j z hj => absurd hj (Nat.not_lt_zero j)⟩
   case round =>
    rename World => wi
    obtain ⟨k, hk, rfl, rfl, hbel, hgk⟩ := hrel
    have HBK := Lib.hid hbel
    have HGK := Lib.hid hgk
    have hszi := hbel.size
    clear hbel hgk
    by_cases hltk : k < j
    ·obtain ⟨z, hz⟩ : ∃ z, s.values[k]? = some z := ⟨_, List.getElem?_eq_getElem (by omega)⟩
     have CL2 : Hid (∀ W, Below wi.heap.size wi W → W.cell? ⟨w.heap.size, 4, none⟩ = some (.slice (some ⟨bv, ov, none⟩) s.values.length c2) ∧ W.cell? ⟨bv, ov + k * 4, none⟩ = some (.int .i64 z.kind) ∧ W.cell? ⟨bv, ov + k * 4 + 1, none⟩ = some (.string z.text) ∧ W.cell? ⟨bv, ov + k * 4 + 2, none⟩ = some (.int .i64 z.lo) ∧ W.cell? ⟨bv, ov + k * 4 + 3, none⟩ = some (.int .i64 z.hi) ∧
       W.cell? ⟨wr.heap.size, 0, none⟩ = some (.int .i64 y.kind) ∧ W.cell? ⟨wr.heap.size, 1, none⟩ = some (.string y.text) ∧ W.cell? ⟨wr.heap.size, 2, none⟩ = some (.int .i64 y.lo) ∧ W.cell? ⟨wr.heap.size, 3, none⟩ = some (.int .i64 y.hi)) := Lib.hid fun W hW => by
      have r1 := (hW.block (w.heap.size) (by omega)).trans ((HBK.out.block _ (by omega)).trans HXB2.out)
      have r3 := (hW.block (wr.heap.size) (by omega)).trans ((HBK.out.block _ (by omega)).trans HVB.out)
      have hWw : Below w.heap.size w W := HBV3.out.trans ((HBK.out.mono (by omega)).trans (hW.mono (by omega)))
      obtain ⟨g0, g1, g2, g3⟩ := HCVV.out k z hz
      exact ⟨by simp [World.cell?, r1], (hWw.cell (p := ⟨bv, ov + k * 4, none⟩) hbv).trans g0, (hWw.cell (p := ⟨bv, ov + k * 4 + 1, none⟩) hbv).trans g1, (hWw.cell (p := ⟨bv, ov + k * 4 + 2, none⟩) hbv).trans g2, (hWw.cell (p := ⟨bv, ov + k * 4 + 3, none⟩) hbv).trans g3, by simp [World.cell?, r3], by simp [World.cell?, r3], by simp [World.cell?, r3], by simp [World.cell?, r3]⟩
     have HCC : Hid (∀ W, Below wi.heap.size wi W → Calls Tryz.prog 88 #[.agg #[.int .i64 z.kind, .string z.text, .int .i64 z.lo, .int .i64 z.hi], .agg #[.int .i64 y.kind, .string y.text, .int .i64 y.lo, .int .i64 y.hi]] W (RetBB (Sg.meetB y z) W)) := Lib.hid fun W _ => by
      rw [Sg.meet_comm y z]
      exact r1collide_any z y W
     have HZ := Lib.hid hz
     have hkI : (0 : Int) ≤ (k : Int) := by omega
     have hkJ : (k : Int) < (j : Int) := by omega
     have hkL : (k : Int) < (s.values.length : Int) := by omega
     clear hz
     generalize hq : Sg.meetB y z = q at HCC
     have HQ := Lib.hid hq
     clear hq
     go_upto_region 16 with fail
     refine wp_region_inv2T (fun T0 => RsnI T0 wi w.heap.size wr.heap.size bv ov s.values.length c2 k y z q) (by kernel_rfl) (by kernel_rfl) ?g0c ?gstepc ?gendc
     case g0c =>
      have hno : ∀ j, ¬ dn (Array.replicate 7 false) j := by
       intro j; unfold dn; by_cases hj : j < 7 <;> simp [Array.getD, hj]
      have na : ∀ {j : Nat} {Z : Prop}, dn (Array.replicate 7 false) j → Z := fun hj => absurd hj (hno _)
      exact ⟨_, rfl, { bel := (Below.refl _ _).drew, siz := rfl, kp := fun _ _ => rfl, k2 := rfl, k6 := rfl, k7 := rfl, p0 := na, p1 := na, p2 := na, p3 := na, p4 := na, p5 := na, p6 := na }⟩
     case gstepc =>
      intro T0 d a wc i hd hI hi
      obtain ⟨hlt, hnd, hpre⟩ := mem_ready hi
      have hd' : d.size = 7 := hd
      have hin : i < 7 := hlt
      clear hi hd hlt
      obtain ⟨t, rfl, h⟩ := hI
      have hcs : i = 0 ∨ i = 1 ∨ i = 2 ∨ i = 3 ∨ i = 4 ∨ i = 5 ∨ i = 6 := by omega
      rcases hcs with rfl | rfl | rfl | rfl | rfl | rfl | rfl
      ·have hi : 0 < d.size := by omega
       have q2 := h.k2
       refine wpOp_plain rfl rfl ?_
       go_simp
       exact ⟨_, rfl, { bel := h.bel, siz := (by simpa using h.siz), kp := rk h.kp, k2 := rs h.k2, k6 := rs h.k6, k7 := rs h.k7, p0 := fun _ => set_same (by have := h.siz; omega), p1 := rp hi h.p1, p2 := rp hi h.p2, p3 := rp hi h.p3, p4 := rp hi h.p4, p5 := rp hi h.p5, p6 := rp hi h.p6 }⟩
      ·have hi : 1 < d.size := by omega
       have e0 := h.p0 (hpre _ rfl ⟨0, .data⟩ (by simp) rfl)
       obtain ⟨m0, -⟩ := CL2.out wc h.bel
       refine wpOp_plain rfl rfl ?_
       go_simp
       exact ⟨_, rfl, { bel := h.bel, siz := (by simpa using h.siz), kp := rk h.kp, k2 := rs h.k2, k6 := rs h.k6, k7 := rs h.k7, p0 := rp hi h.p0, p1 := fun _ => set_same (by have := h.siz; omega), p2 := rp hi h.p2, p3 := rp hi h.p3, p4 := rp hi h.p4, p5 := rp hi h.p5, p6 := rp hi h.p6 }⟩
      ·have hi : 2 < d.size := by omega
       have q7 := h.k7
       refine wpOp_plain rfl rfl ?_
       go_simp
       exact ⟨_, rfl, { bel := h.bel, siz := (by simpa using h.siz), kp := rk h.kp, k2 := rs h.k2, k6 := rs h.k6, k7 := rs h.k7, p0 := rp hi h.p0, p1 := rp hi h.p1, p2 := fun _ => set_same (by have := h.siz; omega), p3 := rp hi h.p3, p4 := rp hi h.p4, p5 := rp hi h.p5, p6 := rp hi h.p6 }⟩
      ·have hi : 3 < d.size := by omega
       have e1 := h.p1 (hpre _ rfl ⟨1, .data⟩ (by simp) rfl)
       have e2 := h.p2 (hpre _ rfl ⟨2, .data⟩ (by simp) rfl)
       refine wpOp_plain rfl rfl ?_
       go_simp
       exact ⟨_, rfl, { bel := h.bel, siz := (by simpa using h.siz), kp := rk h.kp, k2 := rs h.k2, k6 := rs h.k6, k7 := rs h.k7, p0 := rp hi h.p0, p1 := rp hi h.p1, p2 := rp hi h.p2, p3 := fun _ => set_same (by have := h.siz; omega), p4 := rp hi h.p4, p5 := rp hi h.p5, p6 := rp hi h.p6 }⟩
      ·have hi : 4 < d.size := by omega
       have e3 := h.p3 (hpre _ rfl ⟨3, .data⟩ (by simp) rfl)
       obtain ⟨-, m1, m2, m3, m4, -⟩ := CL2.out wc h.bel
       refine wpOp_plain rfl rfl ?_
       go_simp
       exact ⟨_, rfl, { bel := h.bel, siz := (by simpa using h.siz), kp := rk h.kp, k2 := rs h.k2, k6 := rs h.k6, k7 := rs h.k7, p0 := rp hi h.p0, p1 := rp hi h.p1, p2 := rp hi h.p2, p3 := rp hi h.p3, p4 := fun _ => set_same (by have := h.siz; omega), p5 := rp hi h.p5, p6 := rp hi h.p6 }⟩
      ·have hi : 5 < d.size := by omega
       have q6 := h.k6
       obtain ⟨-, -, -, -, -, m5, m6, m7, m8⟩ := CL2.out wc h.bel
       refine wpOp_plain rfl rfl ?_
       go_simp
       exact ⟨_, rfl, { bel := h.bel, siz := (by simpa using h.siz), kp := rk h.kp, k2 := rs h.k2, k6 := rs h.k6, k7 := rs h.k7, p0 := rp hi h.p0, p1 := rp hi h.p1, p2 := rp hi h.p2, p3 := rp hi h.p3, p4 := rp hi h.p4, p5 := fun _ => set_same (by have := h.siz; omega), p6 := rp hi h.p6 }⟩
      ·have hi : 6 < d.size := by omega
       have e4 := h.p4 (hpre _ rfl ⟨4, .data⟩ (by simp) rfl)
       have e5 := h.p5 (hpre _ rfl ⟨5, .data⟩ (by simp) rfl)
       refine wpOp_plain rfl rfl ?_
       go_simp
       refine (HCC.out wc h.bel).mono ?_
       rintro e1 w1 ⟨rfl, hb⟩
       exact ⟨_, rfl, { bel := h.bel.trans (hb.mono h.bel.size), siz := (by simpa using h.siz), kp := rk h.kp, k2 := rs h.k2, k6 := rs h.k6, k7 := rs h.k7, p0 := rp hi h.p0, p1 := rp hi h.p1, p2 := rp hi h.p2, p3 := rp hi h.p3, p4 := rp hi h.p4, p5 := rp hi h.p5, p6 := fun _ => set_same (by have := h.siz; omega) }⟩
     case gendc =>
      intro d a wc hd hI hall
      obtain ⟨t, rfl, h⟩ := hI
      have hdn : ∀ j, j < 7 → dn d j := fun j hj => dn_all hd hall hj
      have hd : ∀ j, (_ : j < 7 := by decide) → dn d j := fun j hj => hdn j hj
      have hfe := frame_eq [(79, _), (80, _), (81, _), (82, _), (83, _), (84, _), (85, _)] (h.siz.trans rfl) h.kp rfl ⟨h.p0 (hd 0), h.p1 (hd 1), h.p2 (hd 2), h.p3 (hd 3), h.p4 (hd 4), h.p5 (hd 5), h.p6 (hd 6), trivial⟩
      simp only [List.foldl_cons, List.foldl_nil, List.setIfInBounds_toArray, List.set_cons_succ, List.set_cons_zero] at hfe
      have hbc := h.bel
      subst hfe
      clear h hdn hd hall
      have hbc' := hbc
      clear hbc
      have HBW2 := Lib.hid (HBK.out.trans (hbc'.mono (by omega)))
      have HBF : Hid (Below w.heap.size w wc) := Lib.hid (HBV3.out.trans (HBW2.out.mono (by omega)))
      clear hbc'
      cases q
      ·have HG2 : Hid (∀ i u, i < k + 1 → s.values[i]? = some u → Sg.meetB y u = false) := Lib.hid fun i u hi hu => by
        by_cases e : i = k
        ·subst e; rw [HZ.out] at hu; cases hu; exact HQ.out
        ·exact HGK.out i u (by omega) hu
       go_wp2_with fail
       go_roundg (j - (k + 1))
       case measure => omega
       case rel => exact ⟨k + 1, by omega, rfl, by go_num, HBW2.out, HG2.out⟩
      ·have HV : Hid (Sg.bodyV p s = 12) := Lib.hid (HE.out 12 (by
        rw [HVV.out, if_pos]
        rw [List.any_eq_true]
        exact ⟨z, List.mem_of_getElem? (by rw [List.getElem?_take_of_lt hltk]; exact HZ.out), HQ.out⟩) (by decide))
       go_wp2_with fail
       go_ret
       exact ⟨ret_int HV.out.symm, HBF.out⟩
    ·have HN : Hid (∀ i, i < j + 1 → Sg.valueAt p s.values i = 0) := Lib.hid fun i hi => by
      by_cases e : i = j
      ·subst e
       rw [HVV.out, if_neg]
       rw [Bool.not_eq_true, List.any_eq_false]
       intro z hz
       obtain ⟨m, hm, e⟩ := List.getElem_of_mem hz
       rw [List.length_take] at hm
       have := HGK.out m z (by omega) (by rw [← e, List.getElem_take]; exact List.getElem?_eq_getElem (by omega))
       simp [this]
      ·exact HGJ.out i (by omega)
     go_wp2_with fail
     go_roundg (s.values.length - (j + 1))
     case measure => omega
     case rel => exact ⟨j + 1, by omega, rfl, by go_num, HBJ.out.trans ((HB2.out.mono (by omega)).trans (HBK.out.mono (by omega))), HN.out⟩
  ·have HV : Hid (Sg.bodyV p s = 0) := Lib.hid (by rw [HSV.out]; exact Sg.firstE_zero fun q hq => HGJ.out q (by omega))
   go_wp2_with fail
   go_ret
   exact ⟨ret_int HV.out.symm, HBW.out⟩
end Go.Proofs.YtenmkbpdkfhbjaaGreat
