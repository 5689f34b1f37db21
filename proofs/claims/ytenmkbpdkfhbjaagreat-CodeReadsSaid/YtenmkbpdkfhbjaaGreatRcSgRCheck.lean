/- ostraconref01.index, Check. Made by gen_rcheck1.py. -/
import Derived.Test.YtenmkbpdkfhbjaaGreatRcSgRSign
namespace Go.Proofs.YtenmkbpdkfhbjaaGreat
open Go Go.RowKit

def Sg.codeIs (c : ByteArray) (s : Sg.Sign) : Bool := decide (s.code = c)
theorem idx_before {α : Type} {p : α → Bool} {l : List α} {k : Nat} {a : α} (h : l[k]? = some a) (hp : p a = true) : decide (idxOf p l < (k : Int)) = (l.take k).any p := by
 rw [Bool.eq_iff_iff, decide_eq_true_eq, List.any_eq_true]
 constructor
 ·intro hlt
  cases hf : l.findIdx? p with
  | none =>
   rw [List.findIdx?_eq_none_iff] at hf
   have := hf a (List.mem_of_getElem? h)
   rw [hp] at this; cases this
  | some i =>
   have e : idxOf p l = (i : Int) := by unfold idxOf; rw [hf]
   rw [List.findIdx?_eq_some_iff_getElem] at hf
   obtain ⟨hl, h1, -⟩ := hf
   refine ⟨l[i], List.mem_of_getElem? (i := i) ?_, h1⟩
   rw [List.getElem?_take_of_lt (by omega)]
   exact List.getElem?_eq_getElem hl
 ·rintro ⟨x, hx, h1⟩
  obtain ⟨m, hm, e⟩ := List.getElem_of_mem hx
  rw [List.length_take] at hm
  have hm' : l[m]? = some x := by rw [← e, List.getElem_take]; exact List.getElem?_eq_getElem (by omega)
  cases hf : l.findIdx? p with
  | none =>
   rw [List.findIdx?_eq_none_iff] at hf
   have := hf a (List.mem_of_getElem? h)
   rw [hp] at this; cases this
  | some i =>
   have e : idxOf p l = (i : Int) := by unfold idxOf; rw [hf]
   rw [List.findIdx?_eq_some_iff_getElem] at hf
   obtain ⟨hl, -, h2⟩ := hf
   have : i ≤ m := by
    refine Decidable.byContradiction fun hc => ?_
    have := h2 m (by omega)
    have e3 : l[m]'(by omega) = x := by
     have := List.getElem?_eq_getElem (l := l) (i := m) (by omega)
     rw [hm'] at this
     exact (Option.some.inj this).symm
    rw [e3] at this
    exact this h1
   omega
set_option maxRecDepth 100000 in
set_option maxHeartbeats 2000000 in
theorem r1index_any (v : Value) (l : Sg.SList) (t : ByteArray) (w : World) (hr : RdSL w w.heap.size v l) : Calls Tryz.prog 64 #[v, .string t] w (RetIB (idxOf (Sg.codeIs t) l.signs) w) := by
 obtain ⟨⟨u, rfl, hg⟩, hf⟩ := hr
 have hn0 := hg.len
 obtain ⟨A0, c0, rfl⟩ := hg.form
 have HG0 := Lib.hid hg
 have HBX : Hid (Below w.heap.size w (w.alloc (.cells #[.int .i64 l.periods, .slice A0 l.signs.length c0] 24))) := Lib.hid ((Below.refl _ _).alloc (Nat.le_refl _) _)
 obtain ⟨wA, hwA⟩ : ∃ wA, wA = w.alloc (.cells #[.int .i64 l.periods, .slice A0 l.signs.length c0] 24) := ⟨_, rfl⟩
 have hx0 : wA.heap[w.heap.size]? = some (.cells #[.int .i64 l.periods, .slice A0 l.signs.length c0] 24 (0, 0)) := by rw [hwA]; exact heap_alloc_new _ _
 have hx1 : wA.cell? ⟨w.heap.size, 1, none⟩ = some (.slice A0 l.signs.length c0) := by simp [World.cell?, hx0]
 rw [← hwA] at HBX
 have HWA := Lib.hid hwA
 clear hg hf hwA hx0
 go_enter Tryz.func64, Tryz.ntmps64
 go_upto_region 1 with fail
 rw [← HWA.out]
 go_wp2_with fail
 go_loopg [5] l.signs.length (fun g i wr => ∃ k : Nat, k ≤ l.signs.length ∧ g = l.signs.length - k ∧ i = .int .i64 k ∧ wr = wA ∧ ∀ j z, j < k → l.signs[j]? = some z → Sg.codeIs t z = false)
 case atStart => exact ⟨0, Nat.zero_le _, rfl, rfl, rfl, fun j _ hj => absurd hj (Nat.not_lt_zero j)⟩
 case round =>
  obtain ⟨k, hk, rfl, rfl, rfl, hno⟩ := hrel
  have HN := Lib.hid hno
  clear hno
  by_cases hlt : k < l.signs.length
  ·obtain ⟨b, off, rfl, hb, hcell⟩ := HG0.out.five (by omega)
   obtain ⟨s, hs⟩ : ∃ s, l.signs[k]? = some s := ⟨_, List.getElem?_eq_getElem hlt⟩
   obtain ⟨uv, -, g0, -⟩ := hcell k s hs
   have f0 := (HBX.out.cell (p := ⟨b, off + k * 5, none⟩) hb).trans g0
   have HS := Lib.hid hs
   have hkI : (0 : Int) ≤ (k : Int) := by omega
   have hkJ : (k : Int) < (l.signs.length : Int) := by omega
   clear hcell hs g0
   by_cases hc : s.code = t
   ·have HI := Lib.hid (idxOf_at (p := Sg.codeIs t) HS.out (by simp [Sg.codeIs, hc]) HN.out)
    subst hc
    go_wp2_with fail
    go_ret
    exact ⟨ret_int HI.out.symm, HBX.out⟩
   ·have HN2 : Hid (∀ j z, j < k + 1 → l.signs[j]? = some z → Sg.codeIs t z = false) := Lib.hid fun j z hj hz => by
     by_cases e : j = k
     ·subst e; rw [HS.out] at hz; cases hz; simp [Sg.codeIs, hc]
     ·exact HN.out j z (by omega) hz
    have ht : (s.code.toList == t.toList) = false := Lx.toList_ne hc
    clear hc
    go_wp2_with fail
    go_roundg (l.signs.length - (k + 1))
    case measure => omega
    case rel => exact ⟨k + 1, by omega, rfl, by go_num, rfl, HN2.out⟩
  ·have HI := Lib.hid (idxOf_none (p := Sg.codeIs t) (xs := l.signs) fun j z hj hz => HN.out j z (by omega) hz)
   go_wp2_with fail
   go_ret
   exact ⟨ret_int HI.out.symm, HBX.out⟩
structure RkaR (T0 : Array Value) (W0 : World) (xb : Nat) (p : Int) (b off nl c0 k : Nat) (s : Sg.Sign) (A2 : Option Addr) (c2 : Nat) (ix : Int) (q : Bool) (d : Array Bool) (t : Array Value) (wc : World) : Prop where
 bel : Below W0.heap.size W0 wc
 siz : t.size = 55
 kp : ∀ i, i ∉ ([24, 25, 26, 27, 28, 29, 30, 31, 32, 33, 34, 35, 36, 37, 38, 39, 40, 41, 42, 43] : List Nat) → t[i]? = T0[i]?
 k1 : t[1]? = some (.pointer (some ⟨xb, 0, none⟩))
 k3 : t[3]? = some (.int .i64 k)
 p0 : dn d 0 → t[24]? = some (.pointer (some ⟨xb, 1, none⟩))
 p1 : dn d 1 → t[25]? = some (.slice (some ⟨b, off, none⟩) nl c0)
 p2 : dn d 2 → t[26]? = some (.int .i64 k)
 p3 : dn d 3 → t[27]? = some (.pointer (some ⟨b, off + k * 5, none⟩))
 p4 : dn d 4 → t[28]? = some (.pointer (some ⟨b, off + k * 5, none⟩))
 p5 : dn d 5 → t[29]? = some (.string s.code)
 p6 : dn d 6 → t[30]? = some (.bool false)
 p7 : dn d 7 → t[31]? = some (.bool true)
 p8 : dn d 8 → t[32]? = some (.bool true)
 p9 : dn d 9 → t[33]? = some (undef)
 p10 : dn d 10 → t[34]? = some (undef)
 p11 : dn d 11 → t[35]? = some (undef)
 p12 : dn d 12 → t[36]? = some (undef)
 p13 : dn d 13 → t[37]? = some (undef)
 p14 : dn d 14 → t[38]? = some (undef)
 p15 : dn d 15 → t[39]? = some (undef)
 p16 : dn d 16 → t[40]? = some (undef)
 p17 : dn d 17 → t[41]? = some (undef)
 p18 : dn d 18 → t[42]? = some (undef)
 p19 : dn d 19 → t[43]? = some (.bool true)
def RkaI (T0 : Array Value) (W0 : World) (xb : Nat) (p : Int) (b off nl c0 k : Nat) (s : Sg.Sign) (A2 : Option Addr) (c2 : Nat) (ix : Int) (q : Bool) (d : Array Bool) (a : Act) (wc : World) : Prop := ∃ t : Array Value, a = ⟨t, []⟩ ∧ RkaR T0 W0 xb p b off nl c0 k s A2 c2 ix q d t wc
structure RkbR (T0 : Array Value) (W0 : World) (xb : Nat) (p : Int) (b off nl c0 k : Nat) (s : Sg.Sign) (A2 : Option Addr) (c2 : Nat) (ix : Int) (q : Bool) (d : Array Bool) (t : Array Value) (wc : World) : Prop where
 bel : Below W0.heap.size W0 wc
 siz : t.size = 55
 kp : ∀ i, i ∉ ([24, 25, 26, 27, 28, 29, 30, 31, 32, 33, 34, 35, 36, 37, 38, 39, 40, 41, 42, 43] : List Nat) → t[i]? = T0[i]?
 k1 : t[1]? = some (.pointer (some ⟨xb, 0, none⟩))
 k3 : t[3]? = some (.int .i64 k)
 p0 : dn d 0 → t[24]? = some (.pointer (some ⟨xb, 1, none⟩))
 p1 : dn d 1 → t[25]? = some (.slice (some ⟨b, off, none⟩) nl c0)
 p2 : dn d 2 → t[26]? = some (.int .i64 k)
 p3 : dn d 3 → t[27]? = some (.pointer (some ⟨b, off + k * 5, none⟩))
 p4 : dn d 4 → t[28]? = some (.pointer (some ⟨b, off + k * 5, none⟩))
 p5 : dn d 5 → t[29]? = some (.string s.code)
 p6 : dn d 6 → t[30]? = some (.bool true)
 p7 : dn d 7 → t[31]? = some (.bool false)
 p8 : dn d 8 → t[32]? = some (.bool false)
 p9 : dn d 9 → t[33]? = some (.agg #[.int .i64 p, .slice (some ⟨b, off, none⟩) nl c0])
 p10 : dn d 10 → t[34]? = some (.pointer (some ⟨xb, 1, none⟩))
 p11 : dn d 11 → t[35]? = some (.slice (some ⟨b, off, none⟩) nl c0)
 p12 : dn d 12 → t[36]? = some (.int .i64 k)
 p13 : dn d 13 → t[37]? = some (.pointer (some ⟨b, off + k * 5, none⟩))
 p14 : dn d 14 → t[38]? = some (.pointer (some ⟨b, off + k * 5, none⟩))
 p15 : dn d 15 → t[39]? = some (.string s.code)
 p16 : dn d 16 → t[40]? = some (.int .i64 ix)
 p17 : dn d 17 → t[41]? = some (.int .i64 k)
 p18 : dn d 18 → t[42]? = some (.bool q)
 p19 : dn d 19 → t[43]? = some (.bool q)
def RkbI (T0 : Array Value) (W0 : World) (xb : Nat) (p : Int) (b off nl c0 k : Nat) (s : Sg.Sign) (A2 : Option Addr) (c2 : Nat) (ix : Int) (q : Bool) (d : Array Bool) (a : Act) (wc : World) : Prop := ∃ t : Array Value, a = ⟨t, []⟩ ∧ RkbR T0 W0 xb p b off nl c0 k s A2 c2 ix q d t wc
structure RkcR (T0 : Array Value) (W0 : World) (xb : Nat) (p : Int) (b off nl c0 k : Nat) (s : Sg.Sign) (A2 : Option Addr) (c2 : Nat) (ix : Int) (q : Bool) (d : Array Bool) (t : Array Value) (wc : World) : Prop where
 bel : Below W0.heap.size W0 wc
 siz : t.size = 55
 kp : ∀ i, i ∉ ([4, 44, 45, 46, 47, 48, 49, 50, 51] : List Nat) → t[i]? = T0[i]?
 k1 : t[1]? = some (.pointer (some ⟨xb, 0, none⟩))
 k3 : t[3]? = some (.int .i64 k)
 p0 : dn d 0 → t[44]? = some (.pointer (some ⟨xb, 1, none⟩))
 p1 : dn d 1 → t[45]? = some (.slice (some ⟨b, off, none⟩) nl c0)
 p2 : dn d 2 → t[46]? = some (.int .i64 k)
 p3 : dn d 3 → t[47]? = some (.pointer (some ⟨b, off + k * 5, none⟩))
 p4 : dn d 4 → t[48]? = some (.agg #[.string s.code, .int .i64 s.wide, .int .i64 s.high, .bool s.even, .slice A2 s.values.length c2])
 p5 : dn d 5 → t[49]? = some (.pointer (some ⟨xb, 0, none⟩))
 p6 : dn d 6 → t[50]? = some (.int .i64 p)
 p7 : dn d 7 → t[51]? = some (.int .i64 ix)
 p8 : dn d 8 → t[4]? = some (.int .i64 ix)
def RkcI (T0 : Array Value) (W0 : World) (xb : Nat) (p : Int) (b off nl c0 k : Nat) (s : Sg.Sign) (A2 : Option Addr) (c2 : Nat) (ix : Int) (q : Bool) (d : Array Bool) (a : Act) (wc : World) : Prop := ∃ t : Array Value, a = ⟨t, []⟩ ∧ RkcR T0 W0 xb p b off nl c0 k s A2 c2 ix q d t wc

set_option maxRecDepth 100000 in
set_option maxHeartbeats 8000000 in
theorem r1Check_any (v : Value) (l : Sg.SList) (w : World) (hr : RdSL w w.heap.size v l) : Calls Tryz.prog 43 #[v] w (RetIB (Sg.checkV l) w) := by
 have HRL := Lib.hid hr
 obtain ⟨⟨u, rfl, hg⟩, hf⟩ := hr
 have hn0 := hg.len
 obtain ⟨A0, c0, rfl⟩ := hg.form
 have HG0 := Lib.hid hg
 have HFS := Lib.hid hf
 have HBX : Hid (Below w.heap.size w (w.alloc (.cells #[.int .i64 l.periods, .slice A0 l.signs.length c0] 24))) := Lib.hid ((Below.refl _ _).alloc (Nat.le_refl _) _)
 clear hg hf
 by_cases h200 : 200 < l.signs.length
 ·have HV : Hid (Sg.checkV l = 2) := Lib.hid (by unfold Sg.checkV; rw [if_pos h200])
  have i1 : (200 : Int) < (l.signs.length : Int) := by omega
  clear h200
  go_enter Tryz.func43, Tryz.ntmps43
  go_wp2_with fail
  go_ret
  exact ⟨ret_int HV.out.symm, HBX.out⟩
 have i1 : ¬ (200 : Int) < (l.signs.length : Int) := by omega
 by_cases hper : l.periods < 1 ∨ 9 < l.periods
 ·have HV : Hid (Sg.checkV l = 13) := Lib.hid (by unfold Sg.checkV; rw [if_neg h200, if_pos hper])
  have hor : l.periods < 1 ∨ (¬ l.periods < 1 ∧ 9 < l.periods) := by omega
  clear hper h200
  rcases hor with i2 | ⟨i2, i3⟩
  all_goals
   go_enter Tryz.func43, Tryz.ntmps43
   go_wp2_with fail
   go_ret
   exact ⟨ret_int HV.out.symm, HBX.out⟩
 have HCV : Hid (Sg.checkV l = Sg.firstE (Sg.signAt l) l.signs.length) := Lib.hid (by unfold Sg.checkV; rw [if_neg h200, if_neg hper])
 have i2 : ¬ l.periods < 1 := by omega
 have i3 : ¬ 9 < l.periods := by omega
 clear hper h200
 go_enter Tryz.func43, Tryz.ntmps43
 go_wp2_with fail
 go_loopg [3] l.signs.length (fun g i wr => ∃ k : Nat, k ≤ l.signs.length ∧ g = l.signs.length - k ∧ i = .int .i64 k ∧ Below (w.heap.size + 1) (w.alloc (.cells #[.int .i64 l.periods, .slice A0 l.signs.length c0] 24)) wr ∧ ∀ j, j < k → Sg.signAt l j = 0)
 case atStart => exact ⟨0, Nat.zero_le _, rfl, rfl, Below.refl _ _, fun j hj => absurd hj (Nat.not_lt_zero j)⟩
 case round =>
  obtain ⟨k, hk, rfl, rfl, hbel, hz⟩ := hrel
  have HZ := Lib.hid hz
  have hszr : w.heap.size < wr.heap.size := by have := hbel.size; simp at this; omega
  have HBW := Lib.hid (HBX.out.trans (hbel.mono (Nat.le_succ _)))
  have hxb : wr.heap[w.heap.size]? = some (.cells #[.int .i64 l.periods, .slice A0 l.signs.length c0] 24 (0, 0)) := (hbel.block _ (by omega)).trans (heap_alloc_new _ _)
  have x1 : wr.cell? ⟨w.heap.size, 1, none⟩ = some (.slice A0 l.signs.length c0) := by simp [World.cell?, hxb]
  have HXB := Lib.hid hxb
  have HB := Lib.hid hbel
  clear hz hbel hxb
  by_cases hlt : k < l.signs.length
  ·obtain ⟨b, off, rfl, hb, hcell⟩ := HG0.out.five (by omega)
   obtain ⟨s, hs⟩ : ∃ s, l.signs[k]? = some s := ⟨_, List.getElem?_eq_getElem hlt⟩
   obtain ⟨uv, hrd, g0, g1, g2, g3, g4⟩ := hcell k s hs
   obtain ⟨A2, c2, rfl, hvc, hvm⟩ := rds_form hrd.rds
   have HRV := Lib.hid hrd.rds
   have hfit := HFS.out s (List.mem_of_getElem? hs)
   have HFV := Lib.hid hfit.2
   have hcs := hfit.1
   have HSG := Lib.hid (Sg.signAt_of hs)
   have HSV : Hid (∀ e, Sg.signAt l k = e → e ≠ 0 → Sg.checkV l = e) := Lib.hid fun e he h0 => by
    rw [HCV.out, ← he]
    exact Sg.firstE_at hlt HZ.out (by rw [he]; exact h0)
   have HIDX : Hid (decide (idxOf (Sg.codeIs s.code) l.signs < (k : Int)) = (l.signs.take k).any (fun t => decide (t.code = s.code))) := Lib.hid (idx_before hs (by simp [Sg.codeIs]))
   have CL2 : Hid (∀ W, Below wr.heap.size wr W → W.cell? ⟨w.heap.size, 0, none⟩ = some (.int .i64 l.periods) ∧ W.cell? ⟨w.heap.size, 1, none⟩ = some (.slice (some ⟨b, off, none⟩) l.signs.length c0) ∧
     W.cell? ⟨b, off + k * 5, none⟩ = some (.string s.code) ∧ W.cell? ⟨b, off + k * 5 + 1, none⟩ = some (.int .i64 s.wide) ∧ W.cell? ⟨b, off + k * 5 + 2, none⟩ = some (.int .i64 s.high) ∧ W.cell? ⟨b, off + k * 5 + 3, none⟩ = some (.bool s.even) ∧ W.cell? ⟨b, off + k * 5 + 4, none⟩ = some (.slice A2 s.values.length c2)) := Lib.hid fun W hW => by
    have r1 := (hW.block (w.heap.size) (by omega)).trans HXB.out
    have hWw : Below w.heap.size w W := HBW.out.trans (hW.mono (by omega))
    exact ⟨by simp [World.cell?, r1], by simp [World.cell?, r1], (hWw.cell (p := ⟨b, off + k * 5, none⟩) hb).trans g0, (hWw.cell (p := ⟨b, off + k * 5 + 1, none⟩) hb).trans g1, (hWw.cell (p := ⟨b, off + k * 5 + 2, none⟩) hb).trans g2, (hWw.cell (p := ⟨b, off + k * 5 + 3, none⟩) hb).trans g3, (hWw.cell (p := ⟨b, off + k * 5 + 4, none⟩) hb).trans g4⟩
   have HIX : Hid (∀ W, Below wr.heap.size wr W → Calls Tryz.prog 64 #[.agg #[.int .i64 l.periods, .slice (some ⟨b, off, none⟩) l.signs.length c0], .string s.code] W (RetIB (idxOf (Sg.codeIs s.code) l.signs) W)) := Lib.hid fun W hW => r1index_any _ l s.code W (HRL.out.on (HBW.out.trans (hW.mono (by omega))))
   have HSI : Hid (∀ W, Below wr.heap.size wr W → Calls Tryz.prog 65 #[.agg #[.string s.code, .int .i64 s.wide, .int .i64 s.high, .bool s.even, .slice A2 s.values.length c2], .int .i64 l.periods] W (RetIB (Sg.bodyV l.periods s) W)) := Lib.hid fun W hW => by
    have hWw : Below w.heap.size w W := HBW.out.trans (hW.mono (by omega))
    exact r1sign_any s _ l.periods W ((HRV.out.below hWw).more hWw.size) HFV.out
   have hkI : (0 : Int) ≤ (k : Int) := by omega
   have hkJ : (k : Int) < (l.signs.length : Int) := by omega
   clear hcell hs g0 g1 g2 g3 g4 hrd hfit
   cases hcb : Sg.codeB s.code
   ·have HV : Hid (Sg.checkV l = 10) := Lib.hid (HSV.out 10 (by rw [HSG.out]; unfold Sg.signV; rw [if_pos (.inl hcb)]) (by decide))
    have HCC : Hid (∀ W, Calls Tryz.prog 63 #[.string s.code] W (RetB false W)) := Lib.hid fun W => by
     have := r1Code_any s.code W hcs
     rwa [hcb] at this
    clear hcb
    go_upto_region 8 with fail
    clear x1
    refine wp_region_inv2T (fun T0 => RkaI T0 wr w.heap.size l.periods b off l.signs.length c0 k s A2 c2 0 true) (by kernel_rfl) (by kernel_rfl) ?g0a ?gstepa ?genda
    case g0a =>
     have hno : ∀ j, ¬ dn (Array.replicate 20 false) j := by
      intro j; unfold dn; by_cases hj : j < 20 <;> simp [Array.getD, hj]
     have na : ∀ {j : Nat} {Z : Prop}, dn (Array.replicate 20 false) j → Z := fun hj => absurd hj (hno _)
     exact ⟨_, rfl, { bel := (Below.refl _ _).drew, siz := rfl, kp := fun _ _ => rfl, k1 := rfl, k3 := rfl, p0 := na, p1 := na, p2 := na, p3 := na, p4 := na, p5 := na, p6 := na, p7 := na, p8 := na, p9 := na, p10 := na, p11 := na, p12 := na, p13 := na, p14 := na, p15 := na, p16 := na, p17 := na, p18 := na, p19 := na }⟩
    case gstepa =>
     intro T0 d a wc i hd hI hi
     obtain ⟨hlt, hnd, hpre⟩ := mem_ready hi
     have hd' : d.size = 20 := hd
     have hin : i < 20 := hlt
     clear hi hd hlt
     obtain ⟨t, rfl, h⟩ := hI
     have hcs : i = 0 ∨ i = 1 ∨ i = 2 ∨ i = 3 ∨ i = 4 ∨ i = 5 ∨ i = 6 ∨ i = 7 ∨ i = 8 ∨ i = 9 ∨ i = 10 ∨ i = 11 ∨ i = 12 ∨ i = 13 ∨ i = 14 ∨ i = 15 ∨ i = 16 ∨ i = 17 ∨ i = 18 ∨ i = 19 := by omega
     rcases hcs with rfl | rfl | rfl | rfl | rfl | rfl | rfl | rfl | rfl | rfl | rfl | rfl | rfl | rfl | rfl | rfl | rfl | rfl | rfl | rfl
     ·have hi : 0 < d.size := by omega
      have q1 := h.k1
      refine wpOp_plain rfl rfl ?_
      go_simp
      exact ⟨_, rfl, { bel := h.bel, siz := (by simpa using h.siz), kp := rk h.kp, k1 := rs h.k1, k3 := rs h.k3, p0 := fun _ => set_same (by have := h.siz; omega), p1 := rp hi h.p1, p2 := rp hi h.p2, p3 := rp hi h.p3, p4 := rp hi h.p4, p5 := rp hi h.p5, p6 := rp hi h.p6, p7 := rp hi h.p7, p8 := rp hi h.p8, p9 := rp hi h.p9, p10 := rp hi h.p10, p11 := rp hi h.p11, p12 := rp hi h.p12, p13 := rp hi h.p13, p14 := rp hi h.p14, p15 := rp hi h.p15, p16 := rp hi h.p16, p17 := rp hi h.p17, p18 := rp hi h.p18, p19 := rp hi h.p19 }⟩
     ·have hi : 1 < d.size := by omega
      have e0 := h.p0 (hpre _ rfl ⟨0, .data⟩ (by simp) rfl)
      obtain ⟨-, m1, -, -, -, -, -⟩ := CL2.out wc h.bel
      refine wpOp_plain rfl rfl ?_
      go_simp
      exact ⟨_, rfl, { bel := h.bel, siz := (by simpa using h.siz), kp := rk h.kp, k1 := rs h.k1, k3 := rs h.k3, p0 := rp hi h.p0, p1 := fun _ => set_same (by have := h.siz; omega), p2 := rp hi h.p2, p3 := rp hi h.p3, p4 := rp hi h.p4, p5 := rp hi h.p5, p6 := rp hi h.p6, p7 := rp hi h.p7, p8 := rp hi h.p8, p9 := rp hi h.p9, p10 := rp hi h.p10, p11 := rp hi h.p11, p12 := rp hi h.p12, p13 := rp hi h.p13, p14 := rp hi h.p14, p15 := rp hi h.p15, p16 := rp hi h.p16, p17 := rp hi h.p17, p18 := rp hi h.p18, p19 := rp hi h.p19 }⟩
     ·have hi : 2 < d.size := by omega
      have q3 := h.k3
      refine wpOp_plain rfl rfl ?_
      go_simp
      exact ⟨_, rfl, { bel := h.bel, siz := (by simpa using h.siz), kp := rk h.kp, k1 := rs h.k1, k3 := rs h.k3, p0 := rp hi h.p0, p1 := rp hi h.p1, p2 := fun _ => set_same (by have := h.siz; omega), p3 := rp hi h.p3, p4 := rp hi h.p4, p5 := rp hi h.p5, p6 := rp hi h.p6, p7 := rp hi h.p7, p8 := rp hi h.p8, p9 := rp hi h.p9, p10 := rp hi h.p10, p11 := rp hi h.p11, p12 := rp hi h.p12, p13 := rp hi h.p13, p14 := rp hi h.p14, p15 := rp hi h.p15, p16 := rp hi h.p16, p17 := rp hi h.p17, p18 := rp hi h.p18, p19 := rp hi h.p19 }⟩
     ·have hi : 3 < d.size := by omega
      have e1 := h.p1 (hpre _ rfl ⟨1, .data⟩ (by simp) rfl)
      have e2 := h.p2 (hpre _ rfl ⟨2, .data⟩ (by simp) rfl)
      refine wpOp_plain rfl rfl ?_
      go_simp
      exact ⟨_, rfl, { bel := h.bel, siz := (by simpa using h.siz), kp := rk h.kp, k1 := rs h.k1, k3 := rs h.k3, p0 := rp hi h.p0, p1 := rp hi h.p1, p2 := rp hi h.p2, p3 := fun _ => set_same (by have := h.siz; omega), p4 := rp hi h.p4, p5 := rp hi h.p5, p6 := rp hi h.p6, p7 := rp hi h.p7, p8 := rp hi h.p8, p9 := rp hi h.p9, p10 := rp hi h.p10, p11 := rp hi h.p11, p12 := rp hi h.p12, p13 := rp hi h.p13, p14 := rp hi h.p14, p15 := rp hi h.p15, p16 := rp hi h.p16, p17 := rp hi h.p17, p18 := rp hi h.p18, p19 := rp hi h.p19 }⟩
     ·have hi : 4 < d.size := by omega
      have e3 := h.p3 (hpre _ rfl ⟨3, .data⟩ (by simp) rfl)
      refine wpOp_plain rfl rfl ?_
      go_simp
      exact ⟨_, rfl, { bel := h.bel, siz := (by simpa using h.siz), kp := rk h.kp, k1 := rs h.k1, k3 := rs h.k3, p0 := rp hi h.p0, p1 := rp hi h.p1, p2 := rp hi h.p2, p3 := rp hi h.p3, p4 := fun _ => set_same (by have := h.siz; omega), p5 := rp hi h.p5, p6 := rp hi h.p6, p7 := rp hi h.p7, p8 := rp hi h.p8, p9 := rp hi h.p9, p10 := rp hi h.p10, p11 := rp hi h.p11, p12 := rp hi h.p12, p13 := rp hi h.p13, p14 := rp hi h.p14, p15 := rp hi h.p15, p16 := rp hi h.p16, p17 := rp hi h.p17, p18 := rp hi h.p18, p19 := rp hi h.p19 }⟩
     ·have hi : 5 < d.size := by omega
      have e4 := h.p4 (hpre _ rfl ⟨4, .data⟩ (by simp) rfl)
      obtain ⟨-, -, m2, -, -, -, -⟩ := CL2.out wc h.bel
      refine wpOp_plain rfl rfl ?_
      go_simp
      exact ⟨_, rfl, { bel := h.bel, siz := (by simpa using h.siz), kp := rk h.kp, k1 := rs h.k1, k3 := rs h.k3, p0 := rp hi h.p0, p1 := rp hi h.p1, p2 := rp hi h.p2, p3 := rp hi h.p3, p4 := rp hi h.p4, p5 := fun _ => set_same (by have := h.siz; omega), p6 := rp hi h.p6, p7 := rp hi h.p7, p8 := rp hi h.p8, p9 := rp hi h.p9, p10 := rp hi h.p10, p11 := rp hi h.p11, p12 := rp hi h.p12, p13 := rp hi h.p13, p14 := rp hi h.p14, p15 := rp hi h.p15, p16 := rp hi h.p16, p17 := rp hi h.p17, p18 := rp hi h.p18, p19 := rp hi h.p19 }⟩
     ·have hi : 6 < d.size := by omega
      have e5 := h.p5 (hpre _ rfl ⟨5, .data⟩ (by simp) rfl)
      refine wpOp_plain rfl rfl ?_
      go_simp
      refine (HCC.out wc).mono ?_
      rintro e1 w1 ⟨rfl, rfl⟩
      exact ⟨_, rfl, { bel := h.bel, siz := (by simpa using h.siz), kp := rk h.kp, k1 := rs h.k1, k3 := rs h.k3, p0 := rp hi h.p0, p1 := rp hi h.p1, p2 := rp hi h.p2, p3 := rp hi h.p3, p4 := rp hi h.p4, p5 := rp hi h.p5, p6 := fun _ => set_same (by have := h.siz; omega), p7 := rp hi h.p7, p8 := rp hi h.p8, p9 := rp hi h.p9, p10 := rp hi h.p10, p11 := rp hi h.p11, p12 := rp hi h.p12, p13 := rp hi h.p13, p14 := rp hi h.p14, p15 := rp hi h.p15, p16 := rp hi h.p16, p17 := rp hi h.p17, p18 := rp hi h.p18, p19 := rp hi h.p19 }⟩
     ·have hi : 7 < d.size := by omega
      have e6 := h.p6 (hpre _ rfl ⟨6, .data⟩ (by simp) rfl)
      refine wpOp_plain rfl rfl ?_
      go_simp
      exact ⟨_, rfl, { bel := h.bel, siz := (by simpa using h.siz), kp := rk h.kp, k1 := rs h.k1, k3 := rs h.k3, p0 := rp hi h.p0, p1 := rp hi h.p1, p2 := rp hi h.p2, p3 := rp hi h.p3, p4 := rp hi h.p4, p5 := rp hi h.p5, p6 := rp hi h.p6, p7 := fun _ => set_same (by have := h.siz; omega), p8 := rp hi h.p8, p9 := rp hi h.p9, p10 := rp hi h.p10, p11 := rp hi h.p11, p12 := rp hi h.p12, p13 := rp hi h.p13, p14 := rp hi h.p14, p15 := rp hi h.p15, p16 := rp hi h.p16, p17 := rp hi h.p17, p18 := rp hi h.p18, p19 := rp hi h.p19 }⟩
     ·have hi : 8 < d.size := by omega
      have e7 := h.p7 (hpre _ rfl ⟨7, .data⟩ (by simp) rfl)
      refine wpOp_plain rfl rfl ?_
      go_simp
      exact ⟨_, rfl, { bel := h.bel, siz := (by simpa using h.siz), kp := rk h.kp, k1 := rs h.k1, k3 := rs h.k3, p0 := rp hi h.p0, p1 := rp hi h.p1, p2 := rp hi h.p2, p3 := rp hi h.p3, p4 := rp hi h.p4, p5 := rp hi h.p5, p6 := rp hi h.p6, p7 := rp hi h.p7, p8 := fun _ => set_same (by have := h.siz; omega), p9 := rp hi h.p9, p10 := rp hi h.p10, p11 := rp hi h.p11, p12 := rp hi h.p12, p13 := rp hi h.p13, p14 := rp hi h.p14, p15 := rp hi h.p15, p16 := rp hi h.p16, p17 := rp hi h.p17, p18 := rp hi h.p18, p19 := rp hi h.p19 }⟩
     ·have hi : 9 < d.size := by omega
      refine wpOp_idle rfl (unwanted_of (d := 32) rfl rfl (h.p8 (hpre _ rfl ⟨8, .guard⟩ (by simp) rfl)) (by decide)) ?_
      exact ⟨_, rfl, { bel := h.bel, siz := (by simpa using h.siz), kp := rk h.kp, k1 := rs h.k1, k3 := rs h.k3, p0 := rp hi h.p0, p1 := rp hi h.p1, p2 := rp hi h.p2, p3 := rp hi h.p3, p4 := rp hi h.p4, p5 := rp hi h.p5, p6 := rp hi h.p6, p7 := rp hi h.p7, p8 := rp hi h.p8, p9 := fun _ => set_same (by have := h.siz; show _ < t.size; omega), p10 := rp hi h.p10, p11 := rp hi h.p11, p12 := rp hi h.p12, p13 := rp hi h.p13, p14 := rp hi h.p14, p15 := rp hi h.p15, p16 := rp hi h.p16, p17 := rp hi h.p17, p18 := rp hi h.p18, p19 := rp hi h.p19 }⟩
     ·have hi : 10 < d.size := by omega
      refine wpOp_idle rfl (unwanted_of (d := 32) rfl rfl (h.p8 (hpre _ rfl ⟨8, .guard⟩ (by simp) rfl)) (by decide)) ?_
      exact ⟨_, rfl, { bel := h.bel, siz := (by simpa using h.siz), kp := rk h.kp, k1 := rs h.k1, k3 := rs h.k3, p0 := rp hi h.p0, p1 := rp hi h.p1, p2 := rp hi h.p2, p3 := rp hi h.p3, p4 := rp hi h.p4, p5 := rp hi h.p5, p6 := rp hi h.p6, p7 := rp hi h.p7, p8 := rp hi h.p8, p9 := rp hi h.p9, p10 := fun _ => set_same (by have := h.siz; show _ < t.size; omega), p11 := rp hi h.p11, p12 := rp hi h.p12, p13 := rp hi h.p13, p14 := rp hi h.p14, p15 := rp hi h.p15, p16 := rp hi h.p16, p17 := rp hi h.p17, p18 := rp hi h.p18, p19 := rp hi h.p19 }⟩
     ·have hi : 11 < d.size := by omega
      refine wpOp_idle rfl (unwanted_of (d := 32) rfl rfl (h.p8 (hpre _ rfl ⟨8, .guard⟩ (by simp) rfl)) (by decide)) ?_
      exact ⟨_, rfl, { bel := h.bel, siz := (by simpa using h.siz), kp := rk h.kp, k1 := rs h.k1, k3 := rs h.k3, p0 := rp hi h.p0, p1 := rp hi h.p1, p2 := rp hi h.p2, p3 := rp hi h.p3, p4 := rp hi h.p4, p5 := rp hi h.p5, p6 := rp hi h.p6, p7 := rp hi h.p7, p8 := rp hi h.p8, p9 := rp hi h.p9, p10 := rp hi h.p10, p11 := fun _ => set_same (by have := h.siz; show _ < t.size; omega), p12 := rp hi h.p12, p13 := rp hi h.p13, p14 := rp hi h.p14, p15 := rp hi h.p15, p16 := rp hi h.p16, p17 := rp hi h.p17, p18 := rp hi h.p18, p19 := rp hi h.p19 }⟩
     ·have hi : 12 < d.size := by omega
      refine wpOp_idle rfl (unwanted_of (d := 32) rfl rfl (h.p8 (hpre _ rfl ⟨8, .guard⟩ (by simp) rfl)) (by decide)) ?_
      exact ⟨_, rfl, { bel := h.bel, siz := (by simpa using h.siz), kp := rk h.kp, k1 := rs h.k1, k3 := rs h.k3, p0 := rp hi h.p0, p1 := rp hi h.p1, p2 := rp hi h.p2, p3 := rp hi h.p3, p4 := rp hi h.p4, p5 := rp hi h.p5, p6 := rp hi h.p6, p7 := rp hi h.p7, p8 := rp hi h.p8, p9 := rp hi h.p9, p10 := rp hi h.p10, p11 := rp hi h.p11, p12 := fun _ => set_same (by have := h.siz; show _ < t.size; omega), p13 := rp hi h.p13, p14 := rp hi h.p14, p15 := rp hi h.p15, p16 := rp hi h.p16, p17 := rp hi h.p17, p18 := rp hi h.p18, p19 := rp hi h.p19 }⟩
     ·have hi : 13 < d.size := by omega
      refine wpOp_idle rfl (unwanted_of (d := 32) rfl rfl (h.p8 (hpre _ rfl ⟨8, .guard⟩ (by simp) rfl)) (by decide)) ?_
      exact ⟨_, rfl, { bel := h.bel, siz := (by simpa using h.siz), kp := rk h.kp, k1 := rs h.k1, k3 := rs h.k3, p0 := rp hi h.p0, p1 := rp hi h.p1, p2 := rp hi h.p2, p3 := rp hi h.p3, p4 := rp hi h.p4, p5 := rp hi h.p5, p6 := rp hi h.p6, p7 := rp hi h.p7, p8 := rp hi h.p8, p9 := rp hi h.p9, p10 := rp hi h.p10, p11 := rp hi h.p11, p12 := rp hi h.p12, p13 := fun _ => set_same (by have := h.siz; show _ < t.size; omega), p14 := rp hi h.p14, p15 := rp hi h.p15, p16 := rp hi h.p16, p17 := rp hi h.p17, p18 := rp hi h.p18, p19 := rp hi h.p19 }⟩
     ·have hi : 14 < d.size := by omega
      refine wpOp_idle rfl (unwanted_of (d := 32) rfl rfl (h.p8 (hpre _ rfl ⟨8, .guard⟩ (by simp) rfl)) (by decide)) ?_
      exact ⟨_, rfl, { bel := h.bel, siz := (by simpa using h.siz), kp := rk h.kp, k1 := rs h.k1, k3 := rs h.k3, p0 := rp hi h.p0, p1 := rp hi h.p1, p2 := rp hi h.p2, p3 := rp hi h.p3, p4 := rp hi h.p4, p5 := rp hi h.p5, p6 := rp hi h.p6, p7 := rp hi h.p7, p8 := rp hi h.p8, p9 := rp hi h.p9, p10 := rp hi h.p10, p11 := rp hi h.p11, p12 := rp hi h.p12, p13 := rp hi h.p13, p14 := fun _ => set_same (by have := h.siz; show _ < t.size; omega), p15 := rp hi h.p15, p16 := rp hi h.p16, p17 := rp hi h.p17, p18 := rp hi h.p18, p19 := rp hi h.p19 }⟩
     ·have hi : 15 < d.size := by omega
      refine wpOp_idle rfl (unwanted_of (d := 32) rfl rfl (h.p8 (hpre _ rfl ⟨8, .guard⟩ (by simp) rfl)) (by decide)) ?_
      exact ⟨_, rfl, { bel := h.bel, siz := (by simpa using h.siz), kp := rk h.kp, k1 := rs h.k1, k3 := rs h.k3, p0 := rp hi h.p0, p1 := rp hi h.p1, p2 := rp hi h.p2, p3 := rp hi h.p3, p4 := rp hi h.p4, p5 := rp hi h.p5, p6 := rp hi h.p6, p7 := rp hi h.p7, p8 := rp hi h.p8, p9 := rp hi h.p9, p10 := rp hi h.p10, p11 := rp hi h.p11, p12 := rp hi h.p12, p13 := rp hi h.p13, p14 := rp hi h.p14, p15 := fun _ => set_same (by have := h.siz; show _ < t.size; omega), p16 := rp hi h.p16, p17 := rp hi h.p17, p18 := rp hi h.p18, p19 := rp hi h.p19 }⟩
     ·have hi : 16 < d.size := by omega
      refine wpOp_idle rfl (unwanted_of (d := 32) rfl rfl (h.p8 (hpre _ rfl ⟨8, .guard⟩ (by simp) rfl)) (by decide)) ?_
      exact ⟨_, rfl, { bel := h.bel, siz := (by simpa using h.siz), kp := rk h.kp, k1 := rs h.k1, k3 := rs h.k3, p0 := rp hi h.p0, p1 := rp hi h.p1, p2 := rp hi h.p2, p3 := rp hi h.p3, p4 := rp hi h.p4, p5 := rp hi h.p5, p6 := rp hi h.p6, p7 := rp hi h.p7, p8 := rp hi h.p8, p9 := rp hi h.p9, p10 := rp hi h.p10, p11 := rp hi h.p11, p12 := rp hi h.p12, p13 := rp hi h.p13, p14 := rp hi h.p14, p15 := rp hi h.p15, p16 := fun _ => set_same (by have := h.siz; show _ < t.size; omega), p17 := rp hi h.p17, p18 := rp hi h.p18, p19 := rp hi h.p19 }⟩
     ·have hi : 17 < d.size := by omega
      refine wpOp_idle rfl (unwanted_of (d := 32) rfl rfl (h.p8 (hpre _ rfl ⟨8, .guard⟩ (by simp) rfl)) (by decide)) ?_
      exact ⟨_, rfl, { bel := h.bel, siz := (by simpa using h.siz), kp := rk h.kp, k1 := rs h.k1, k3 := rs h.k3, p0 := rp hi h.p0, p1 := rp hi h.p1, p2 := rp hi h.p2, p3 := rp hi h.p3, p4 := rp hi h.p4, p5 := rp hi h.p5, p6 := rp hi h.p6, p7 := rp hi h.p7, p8 := rp hi h.p8, p9 := rp hi h.p9, p10 := rp hi h.p10, p11 := rp hi h.p11, p12 := rp hi h.p12, p13 := rp hi h.p13, p14 := rp hi h.p14, p15 := rp hi h.p15, p16 := rp hi h.p16, p17 := fun _ => set_same (by have := h.siz; show _ < t.size; omega), p18 := rp hi h.p18, p19 := rp hi h.p19 }⟩
     ·have hi : 18 < d.size := by omega
      refine wpOp_idle rfl (unwanted_of (d := 32) rfl rfl (h.p8 (hpre _ rfl ⟨8, .guard⟩ (by simp) rfl)) (by decide)) ?_
      exact ⟨_, rfl, { bel := h.bel, siz := (by simpa using h.siz), kp := rk h.kp, k1 := rs h.k1, k3 := rs h.k3, p0 := rp hi h.p0, p1 := rp hi h.p1, p2 := rp hi h.p2, p3 := rp hi h.p3, p4 := rp hi h.p4, p5 := rp hi h.p5, p6 := rp hi h.p6, p7 := rp hi h.p7, p8 := rp hi h.p8, p9 := rp hi h.p9, p10 := rp hi h.p10, p11 := rp hi h.p11, p12 := rp hi h.p12, p13 := rp hi h.p13, p14 := rp hi h.p14, p15 := rp hi h.p15, p16 := rp hi h.p16, p17 := rp hi h.p17, p18 := fun _ => set_same (by have := h.siz; show _ < t.size; omega), p19 := rp hi h.p19 }⟩
     ·have hi : 19 < d.size := by omega
      have e8 := h.p8 (hpre _ rfl ⟨8, .data⟩ (by simp) rfl)
      have e18 := h.p18 (hpre _ rfl ⟨18, .data⟩ (by simp) rfl)
      refine wpOp_plain rfl rfl ?_
      go_simp
      exact ⟨_, rfl, { bel := h.bel, siz := (by simpa using h.siz), kp := rk h.kp, k1 := rs h.k1, k3 := rs h.k3, p0 := rp hi h.p0, p1 := rp hi h.p1, p2 := rp hi h.p2, p3 := rp hi h.p3, p4 := rp hi h.p4, p5 := rp hi h.p5, p6 := rp hi h.p6, p7 := rp hi h.p7, p8 := rp hi h.p8, p9 := rp hi h.p9, p10 := rp hi h.p10, p11 := rp hi h.p11, p12 := rp hi h.p12, p13 := rp hi h.p13, p14 := rp hi h.p14, p15 := rp hi h.p15, p16 := rp hi h.p16, p17 := rp hi h.p17, p18 := rp hi h.p18, p19 := fun _ => set_same (by have := h.siz; omega) }⟩
    case genda =>
     intro d a wc hd hI hall
     obtain ⟨t, rfl, h⟩ := hI
     have hdn : ∀ j, j < 20 → dn d j := fun j hj => dn_all hd hall hj
     have hd : ∀ j, (_ : j < 20 := by decide) → dn d j := fun j hj => hdn j hj
     have hfe := frame_eq [(24, _), (25, _), (26, _), (27, _), (28, _), (29, _), (30, _), (31, _), (32, _), (33, _), (34, _), (35, _), (36, _), (37, _), (38, _), (39, _), (40, _), (41, _), (42, _), (43, _)] (h.siz.trans rfl) h.kp rfl ⟨h.p0 (hd 0), h.p1 (hd 1), h.p2 (hd 2), h.p3 (hd 3), h.p4 (hd 4), h.p5 (hd 5), h.p6 (hd 6), h.p7 (hd 7), h.p8 (hd 8), h.p9 (hd 9), h.p10 (hd 10), h.p11 (hd 11), h.p12 (hd 12), h.p13 (hd 13), h.p14 (hd 14), h.p15 (hd 15), h.p16 (hd 16), h.p17 (hd 17), h.p18 (hd 18), h.p19 (hd 19), trivial⟩
     simp only [List.foldl_cons, List.foldl_nil, List.setIfInBounds_toArray, List.set_cons_succ, List.set_cons_zero] at hfe
     have hbc := h.bel
     subst hfe
     clear h hdn hd hall
     have hbc' := hbc
     clear hbc
     have HBF : Hid (Below w.heap.size w wc) := Lib.hid (HBW.out.trans (hbc'.mono (by omega)))
     clear hbc'
     go_wp2_with fail
     go_ret
     exact ⟨ret_int HV.out.symm, HBF.out⟩
   have HCC : Hid (∀ W, Calls Tryz.prog 63 #[.string s.code] W (RetB true W)) := Lib.hid fun W => by
    have := r1Code_any s.code W hcs
    rwa [hcb] at this
   obtain ⟨q, hq⟩ : ∃ q, q = (l.signs.take k).any (fun t => decide (t.code = s.code)) := ⟨_, rfl⟩
   have HSG2 : Hid (Sg.signAt l k = if q = true then 10 else Sg.bodyV l.periods s) := Lib.hid (by
    rw [HSG.out]
    unfold Sg.signV
    rw [← hq, hcb]
    simp)
   obtain ⟨ix, hix⟩ : ∃ ix, ix = idxOf (Sg.codeIs s.code) l.signs := ⟨_, rfl⟩
   have HQ : Hid (decide (ix < (k : Int)) = q) := Lib.hid (by rw [hix, hq]; exact HIDX.out)
   rw [← hix] at HIX
   clear hix hcb hq HIDX
   go_upto_region 8 with fail
   clear x1
   refine wp_region_inv2T (fun T0 => RkbI T0 wr w.heap.size l.periods b off l.signs.length c0 k s A2 c2 ix q) (by kernel_rfl) (by kernel_rfl) ?g0b ?gstepb ?gendb
   case g0b =>
    have hno : ∀ j, ¬ dn (Array.replicate 20 false) j := by
     intro j; unfold dn; by_cases hj : j < 20 <;> simp [Array.getD, hj]
    have na : ∀ {j : Nat} {Z : Prop}, dn (Array.replicate 20 false) j → Z := fun hj => absurd hj (hno _)
    exact ⟨_, rfl, { bel := (Below.refl _ _).drew, siz := rfl, kp := fun _ _ => rfl, k1 := rfl, k3 := rfl, p0 := na, p1 := na, p2 := na, p3 := na, p4 := na, p5 := na, p6 := na, p7 := na, p8 := na, p9 := na, p10 := na, p11 := na, p12 := na, p13 := na, p14 := na, p15 := na, p16 := na, p17 := na, p18 := na, p19 := na }⟩
   case gstepb =>
    intro T0 d a wc i hd hI hi
    obtain ⟨hlt, hnd, hpre⟩ := mem_ready hi
    have hd' : d.size = 20 := hd
    have hin : i < 20 := hlt
    clear hi hd hlt
    obtain ⟨t, rfl, h⟩ := hI
    have hcs : i = 0 ∨ i = 1 ∨ i = 2 ∨ i = 3 ∨ i = 4 ∨ i = 5 ∨ i = 6 ∨ i = 7 ∨ i = 8 ∨ i = 9 ∨ i = 10 ∨ i = 11 ∨ i = 12 ∨ i = 13 ∨ i = 14 ∨ i = 15 ∨ i = 16 ∨ i = 17 ∨ i = 18 ∨ i = 19 := by omega
    rcases hcs with rfl | rfl | rfl | rfl | rfl | rfl | rfl | rfl | rfl | rfl | rfl | rfl | rfl | rfl | rfl | rfl | rfl | rfl | rfl | rfl
    ·have hi : 0 < d.size := by omega
     have q1 := h.k1
     refine wpOp_plain rfl rfl ?_
     go_simp
     exact ⟨_, rfl, { bel := h.bel, siz := (by simpa using h.siz), kp := rk h.kp, k1 := rs h.k1, k3 := rs h.k3, p0 := fun _ => set_same (by have := h.siz; omega), p1 := rp hi h.p1, p2 := rp hi h.p2, p3 := rp hi h.p3, p4 := rp hi h.p4, p5 := rp hi h.p5, p6 := rp hi h.p6, p7 := rp hi h.p7, p8 := rp hi h.p8, p9 := rp hi h.p9, p10 := rp hi h.p10, p11 := rp hi h.p11, p12 := rp hi h.p12, p13 := rp hi h.p13, p14 := rp hi h.p14, p15 := rp hi h.p15, p16 := rp hi h.p16, p17 := rp hi h.p17, p18 := rp hi h.p18, p19 := rp hi h.p19 }⟩
    ·have hi : 1 < d.size := by omega
     have e0 := h.p0 (hpre _ rfl ⟨0, .data⟩ (by simp) rfl)
     obtain ⟨-, m1, -, -, -, -, -⟩ := CL2.out wc h.bel
     refine wpOp_plain rfl rfl ?_
     go_simp
     exact ⟨_, rfl, { bel := h.bel, siz := (by simpa using h.siz), kp := rk h.kp, k1 := rs h.k1, k3 := rs h.k3, p0 := rp hi h.p0, p1 := fun _ => set_same (by have := h.siz; omega), p2 := rp hi h.p2, p3 := rp hi h.p3, p4 := rp hi h.p4, p5 := rp hi h.p5, p6 := rp hi h.p6, p7 := rp hi h.p7, p8 := rp hi h.p8, p9 := rp hi h.p9, p10 := rp hi h.p10, p11 := rp hi h.p11, p12 := rp hi h.p12, p13 := rp hi h.p13, p14 := rp hi h.p14, p15 := rp hi h.p15, p16 := rp hi h.p16, p17 := rp hi h.p17, p18 := rp hi h.p18, p19 := rp hi h.p19 }⟩
    ·have hi : 2 < d.size := by omega
     have q3 := h.k3
     refine wpOp_plain rfl rfl ?_
     go_simp
     exact ⟨_, rfl, { bel := h.bel, siz := (by simpa using h.siz), kp := rk h.kp, k1 := rs h.k1, k3 := rs h.k3, p0 := rp hi h.p0, p1 := rp hi h.p1, p2 := fun _ => set_same (by have := h.siz; omega), p3 := rp hi h.p3, p4 := rp hi h.p4, p5 := rp hi h.p5, p6 := rp hi h.p6, p7 := rp hi h.p7, p8 := rp hi h.p8, p9 := rp hi h.p9, p10 := rp hi h.p10, p11 := rp hi h.p11, p12 := rp hi h.p12, p13 := rp hi h.p13, p14 := rp hi h.p14, p15 := rp hi h.p15, p16 := rp hi h.p16, p17 := rp hi h.p17, p18 := rp hi h.p18, p19 := rp hi h.p19 }⟩
    ·have hi : 3 < d.size := by omega
     have e1 := h.p1 (hpre _ rfl ⟨1, .data⟩ (by simp) rfl)
     have e2 := h.p2 (hpre _ rfl ⟨2, .data⟩ (by simp) rfl)
     refine wpOp_plain rfl rfl ?_
     go_simp
     exact ⟨_, rfl, { bel := h.bel, siz := (by simpa using h.siz), kp := rk h.kp, k1 := rs h.k1, k3 := rs h.k3, p0 := rp hi h.p0, p1 := rp hi h.p1, p2 := rp hi h.p2, p3 := fun _ => set_same (by have := h.siz; omega), p4 := rp hi h.p4, p5 := rp hi h.p5, p6 := rp hi h.p6, p7 := rp hi h.p7, p8 := rp hi h.p8, p9 := rp hi h.p9, p10 := rp hi h.p10, p11 := rp hi h.p11, p12 := rp hi h.p12, p13 := rp hi h.p13, p14 := rp hi h.p14, p15 := rp hi h.p15, p16 := rp hi h.p16, p17 := rp hi h.p17, p18 := rp hi h.p18, p19 := rp hi h.p19 }⟩
    ·have hi : 4 < d.size := by omega
     have e3 := h.p3 (hpre _ rfl ⟨3, .data⟩ (by simp) rfl)
     refine wpOp_plain rfl rfl ?_
     go_simp
     exact ⟨_, rfl, { bel := h.bel, siz := (by simpa using h.siz), kp := rk h.kp, k1 := rs h.k1, k3 := rs h.k3, p0 := rp hi h.p0, p1 := rp hi h.p1, p2 := rp hi h.p2, p3 := rp hi h.p3, p4 := fun _ => set_same (by have := h.siz; omega), p5 := rp hi h.p5, p6 := rp hi h.p6, p7 := rp hi h.p7, p8 := rp hi h.p8, p9 := rp hi h.p9, p10 := rp hi h.p10, p11 := rp hi h.p11, p12 := rp hi h.p12, p13 := rp hi h.p13, p14 := rp hi h.p14, p15 := rp hi h.p15, p16 := rp hi h.p16, p17 := rp hi h.p17, p18 := rp hi h.p18, p19 := rp hi h.p19 }⟩
    ·have hi : 5 < d.size := by omega
     have e4 := h.p4 (hpre _ rfl ⟨4, .data⟩ (by simp) rfl)
     obtain ⟨-, -, m2, -, -, -, -⟩ := CL2.out wc h.bel
     refine wpOp_plain rfl rfl ?_
     go_simp
     exact ⟨_, rfl, { bel := h.bel, siz := (by simpa using h.siz), kp := rk h.kp, k1 := rs h.k1, k3 := rs h.k3, p0 := rp hi h.p0, p1 := rp hi h.p1, p2 := rp hi h.p2, p3 := rp hi h.p3, p4 := rp hi h.p4, p5 := fun _ => set_same (by have := h.siz; omega), p6 := rp hi h.p6, p7 := rp hi h.p7, p8 := rp hi h.p8, p9 := rp hi h.p9, p10 := rp hi h.p10, p11 := rp hi h.p11, p12 := rp hi h.p12, p13 := rp hi h.p13, p14 := rp hi h.p14, p15 := rp hi h.p15, p16 := rp hi h.p16, p17 := rp hi h.p17, p18 := rp hi h.p18, p19 := rp hi h.p19 }⟩
    ·have hi : 6 < d.size := by omega
     have e5 := h.p5 (hpre _ rfl ⟨5, .data⟩ (by simp) rfl)
     refine wpOp_plain rfl rfl ?_
     go_simp
     refine (HCC.out wc).mono ?_
     rintro e1 w1 ⟨rfl, rfl⟩
     exact ⟨_, rfl, { bel := h.bel, siz := (by simpa using h.siz), kp := rk h.kp, k1 := rs h.k1, k3 := rs h.k3, p0 := rp hi h.p0, p1 := rp hi h.p1, p2 := rp hi h.p2, p3 := rp hi h.p3, p4 := rp hi h.p4, p5 := rp hi h.p5, p6 := fun _ => set_same (by have := h.siz; omega), p7 := rp hi h.p7, p8 := rp hi h.p8, p9 := rp hi h.p9, p10 := rp hi h.p10, p11 := rp hi h.p11, p12 := rp hi h.p12, p13 := rp hi h.p13, p14 := rp hi h.p14, p15 := rp hi h.p15, p16 := rp hi h.p16, p17 := rp hi h.p17, p18 := rp hi h.p18, p19 := rp hi h.p19 }⟩
    ·have hi : 7 < d.size := by omega
     have e6 := h.p6 (hpre _ rfl ⟨6, .data⟩ (by simp) rfl)
     refine wpOp_plain rfl rfl ?_
     go_simp
     exact ⟨_, rfl, { bel := h.bel, siz := (by simpa using h.siz), kp := rk h.kp, k1 := rs h.k1, k3 := rs h.k3, p0 := rp hi h.p0, p1 := rp hi h.p1, p2 := rp hi h.p2, p3 := rp hi h.p3, p4 := rp hi h.p4, p5 := rp hi h.p5, p6 := rp hi h.p6, p7 := fun _ => set_same (by have := h.siz; omega), p8 := rp hi h.p8, p9 := rp hi h.p9, p10 := rp hi h.p10, p11 := rp hi h.p11, p12 := rp hi h.p12, p13 := rp hi h.p13, p14 := rp hi h.p14, p15 := rp hi h.p15, p16 := rp hi h.p16, p17 := rp hi h.p17, p18 := rp hi h.p18, p19 := rp hi h.p19 }⟩
    ·have hi : 8 < d.size := by omega
     have e7 := h.p7 (hpre _ rfl ⟨7, .data⟩ (by simp) rfl)
     refine wpOp_plain rfl rfl ?_
     go_simp
     exact ⟨_, rfl, { bel := h.bel, siz := (by simpa using h.siz), kp := rk h.kp, k1 := rs h.k1, k3 := rs h.k3, p0 := rp hi h.p0, p1 := rp hi h.p1, p2 := rp hi h.p2, p3 := rp hi h.p3, p4 := rp hi h.p4, p5 := rp hi h.p5, p6 := rp hi h.p6, p7 := rp hi h.p7, p8 := fun _ => set_same (by have := h.siz; omega), p9 := rp hi h.p9, p10 := rp hi h.p10, p11 := rp hi h.p11, p12 := rp hi h.p12, p13 := rp hi h.p13, p14 := rp hi h.p14, p15 := rp hi h.p15, p16 := rp hi h.p16, p17 := rp hi h.p17, p18 := rp hi h.p18, p19 := rp hi h.p19 }⟩
    ·have hi : 9 < d.size := by omega
     have q1 := h.k1
     obtain ⟨m0, m1, -, -, -, -, -⟩ := CL2.out wc h.bel
     refine wpOp_guard rfl (wanted_of (d := 32) rfl rfl (h.p8 (hpre _ rfl ⟨8, .guard⟩ (by simp) rfl))) ?_
     go_simp
     exact ⟨_, rfl, { bel := h.bel, siz := (by simpa using h.siz), kp := rk h.kp, k1 := rs h.k1, k3 := rs h.k3, p0 := rp hi h.p0, p1 := rp hi h.p1, p2 := rp hi h.p2, p3 := rp hi h.p3, p4 := rp hi h.p4, p5 := rp hi h.p5, p6 := rp hi h.p6, p7 := rp hi h.p7, p8 := rp hi h.p8, p9 := fun _ => set_same (by have := h.siz; omega), p10 := rp hi h.p10, p11 := rp hi h.p11, p12 := rp hi h.p12, p13 := rp hi h.p13, p14 := rp hi h.p14, p15 := rp hi h.p15, p16 := rp hi h.p16, p17 := rp hi h.p17, p18 := rp hi h.p18, p19 := rp hi h.p19 }⟩
    ·have hi : 10 < d.size := by omega
     have q1 := h.k1
     refine wpOp_guard rfl (wanted_of (d := 32) rfl rfl (h.p8 (hpre _ rfl ⟨8, .guard⟩ (by simp) rfl))) ?_
     go_simp
     exact ⟨_, rfl, { bel := h.bel, siz := (by simpa using h.siz), kp := rk h.kp, k1 := rs h.k1, k3 := rs h.k3, p0 := rp hi h.p0, p1 := rp hi h.p1, p2 := rp hi h.p2, p3 := rp hi h.p3, p4 := rp hi h.p4, p5 := rp hi h.p5, p6 := rp hi h.p6, p7 := rp hi h.p7, p8 := rp hi h.p8, p9 := rp hi h.p9, p10 := fun _ => set_same (by have := h.siz; omega), p11 := rp hi h.p11, p12 := rp hi h.p12, p13 := rp hi h.p13, p14 := rp hi h.p14, p15 := rp hi h.p15, p16 := rp hi h.p16, p17 := rp hi h.p17, p18 := rp hi h.p18, p19 := rp hi h.p19 }⟩
    ·have hi : 11 < d.size := by omega
     have e10 := h.p10 (hpre _ rfl ⟨10, .data⟩ (by simp) rfl)
     obtain ⟨-, m1, -, -, -, -, -⟩ := CL2.out wc h.bel
     refine wpOp_guard rfl (wanted_of (d := 32) rfl rfl (h.p8 (hpre _ rfl ⟨8, .guard⟩ (by simp) rfl))) ?_
     go_simp
     exact ⟨_, rfl, { bel := h.bel, siz := (by simpa using h.siz), kp := rk h.kp, k1 := rs h.k1, k3 := rs h.k3, p0 := rp hi h.p0, p1 := rp hi h.p1, p2 := rp hi h.p2, p3 := rp hi h.p3, p4 := rp hi h.p4, p5 := rp hi h.p5, p6 := rp hi h.p6, p7 := rp hi h.p7, p8 := rp hi h.p8, p9 := rp hi h.p9, p10 := rp hi h.p10, p11 := fun _ => set_same (by have := h.siz; omega), p12 := rp hi h.p12, p13 := rp hi h.p13, p14 := rp hi h.p14, p15 := rp hi h.p15, p16 := rp hi h.p16, p17 := rp hi h.p17, p18 := rp hi h.p18, p19 := rp hi h.p19 }⟩
    ·have hi : 12 < d.size := by omega
     have q3 := h.k3
     refine wpOp_guard rfl (wanted_of (d := 32) rfl rfl (h.p8 (hpre _ rfl ⟨8, .guard⟩ (by simp) rfl))) ?_
     go_simp
     exact ⟨_, rfl, { bel := h.bel, siz := (by simpa using h.siz), kp := rk h.kp, k1 := rs h.k1, k3 := rs h.k3, p0 := rp hi h.p0, p1 := rp hi h.p1, p2 := rp hi h.p2, p3 := rp hi h.p3, p4 := rp hi h.p4, p5 := rp hi h.p5, p6 := rp hi h.p6, p7 := rp hi h.p7, p8 := rp hi h.p8, p9 := rp hi h.p9, p10 := rp hi h.p10, p11 := rp hi h.p11, p12 := fun _ => set_same (by have := h.siz; omega), p13 := rp hi h.p13, p14 := rp hi h.p14, p15 := rp hi h.p15, p16 := rp hi h.p16, p17 := rp hi h.p17, p18 := rp hi h.p18, p19 := rp hi h.p19 }⟩
    ·have hi : 13 < d.size := by omega
     have e11 := h.p11 (hpre _ rfl ⟨11, .data⟩ (by simp) rfl)
     have e12 := h.p12 (hpre _ rfl ⟨12, .data⟩ (by simp) rfl)
     refine wpOp_guard rfl (wanted_of (d := 32) rfl rfl (h.p8 (hpre _ rfl ⟨8, .guard⟩ (by simp) rfl))) ?_
     go_simp
     exact ⟨_, rfl, { bel := h.bel, siz := (by simpa using h.siz), kp := rk h.kp, k1 := rs h.k1, k3 := rs h.k3, p0 := rp hi h.p0, p1 := rp hi h.p1, p2 := rp hi h.p2, p3 := rp hi h.p3, p4 := rp hi h.p4, p5 := rp hi h.p5, p6 := rp hi h.p6, p7 := rp hi h.p7, p8 := rp hi h.p8, p9 := rp hi h.p9, p10 := rp hi h.p10, p11 := rp hi h.p11, p12 := rp hi h.p12, p13 := fun _ => set_same (by have := h.siz; omega), p14 := rp hi h.p14, p15 := rp hi h.p15, p16 := rp hi h.p16, p17 := rp hi h.p17, p18 := rp hi h.p18, p19 := rp hi h.p19 }⟩
    ·have hi : 14 < d.size := by omega
     have e13 := h.p13 (hpre _ rfl ⟨13, .data⟩ (by simp) rfl)
     refine wpOp_guard rfl (wanted_of (d := 32) rfl rfl (h.p8 (hpre _ rfl ⟨8, .guard⟩ (by simp) rfl))) ?_
     go_simp
     exact ⟨_, rfl, { bel := h.bel, siz := (by simpa using h.siz), kp := rk h.kp, k1 := rs h.k1, k3 := rs h.k3, p0 := rp hi h.p0, p1 := rp hi h.p1, p2 := rp hi h.p2, p3 := rp hi h.p3, p4 := rp hi h.p4, p5 := rp hi h.p5, p6 := rp hi h.p6, p7 := rp hi h.p7, p8 := rp hi h.p8, p9 := rp hi h.p9, p10 := rp hi h.p10, p11 := rp hi h.p11, p12 := rp hi h.p12, p13 := rp hi h.p13, p14 := fun _ => set_same (by have := h.siz; omega), p15 := rp hi h.p15, p16 := rp hi h.p16, p17 := rp hi h.p17, p18 := rp hi h.p18, p19 := rp hi h.p19 }⟩
    ·have hi : 15 < d.size := by omega
     have e14 := h.p14 (hpre _ rfl ⟨14, .data⟩ (by simp) rfl)
     obtain ⟨-, -, m2, -, -, -, -⟩ := CL2.out wc h.bel
     refine wpOp_guard rfl (wanted_of (d := 32) rfl rfl (h.p8 (hpre _ rfl ⟨8, .guard⟩ (by simp) rfl))) ?_
     go_simp
     exact ⟨_, rfl, { bel := h.bel, siz := (by simpa using h.siz), kp := rk h.kp, k1 := rs h.k1, k3 := rs h.k3, p0 := rp hi h.p0, p1 := rp hi h.p1, p2 := rp hi h.p2, p3 := rp hi h.p3, p4 := rp hi h.p4, p5 := rp hi h.p5, p6 := rp hi h.p6, p7 := rp hi h.p7, p8 := rp hi h.p8, p9 := rp hi h.p9, p10 := rp hi h.p10, p11 := rp hi h.p11, p12 := rp hi h.p12, p13 := rp hi h.p13, p14 := rp hi h.p14, p15 := fun _ => set_same (by have := h.siz; omega), p16 := rp hi h.p16, p17 := rp hi h.p17, p18 := rp hi h.p18, p19 := rp hi h.p19 }⟩
    ·have hi : 16 < d.size := by omega
     have e9 := h.p9 (hpre _ rfl ⟨9, .data⟩ (by simp) rfl)
     have e15 := h.p15 (hpre _ rfl ⟨15, .data⟩ (by simp) rfl)
     refine wpOp_guard rfl (wanted_of (d := 32) rfl rfl (h.p8 (hpre _ rfl ⟨8, .guard⟩ (by simp) rfl))) ?_
     go_simp
     refine (HIX.out wc h.bel).mono ?_
     rintro e1 w1 ⟨rfl, hb⟩
     exact ⟨_, rfl, { bel := h.bel.trans (hb.mono h.bel.size), siz := (by simpa using h.siz), kp := rk h.kp, k1 := rs h.k1, k3 := rs h.k3, p0 := rp hi h.p0, p1 := rp hi h.p1, p2 := rp hi h.p2, p3 := rp hi h.p3, p4 := rp hi h.p4, p5 := rp hi h.p5, p6 := rp hi h.p6, p7 := rp hi h.p7, p8 := rp hi h.p8, p9 := rp hi h.p9, p10 := rp hi h.p10, p11 := rp hi h.p11, p12 := rp hi h.p12, p13 := rp hi h.p13, p14 := rp hi h.p14, p15 := rp hi h.p15, p16 := fun _ => set_same (by have := h.siz; omega), p17 := rp hi h.p17, p18 := rp hi h.p18, p19 := rp hi h.p19 }⟩
    ·have hi : 17 < d.size := by omega
     have q3 := h.k3
     refine wpOp_guard rfl (wanted_of (d := 32) rfl rfl (h.p8 (hpre _ rfl ⟨8, .guard⟩ (by simp) rfl))) ?_
     go_simp
     exact ⟨_, rfl, { bel := h.bel, siz := (by simpa using h.siz), kp := rk h.kp, k1 := rs h.k1, k3 := rs h.k3, p0 := rp hi h.p0, p1 := rp hi h.p1, p2 := rp hi h.p2, p3 := rp hi h.p3, p4 := rp hi h.p4, p5 := rp hi h.p5, p6 := rp hi h.p6, p7 := rp hi h.p7, p8 := rp hi h.p8, p9 := rp hi h.p9, p10 := rp hi h.p10, p11 := rp hi h.p11, p12 := rp hi h.p12, p13 := rp hi h.p13, p14 := rp hi h.p14, p15 := rp hi h.p15, p16 := rp hi h.p16, p17 := fun _ => set_same (by have := h.siz; omega), p18 := rp hi h.p18, p19 := rp hi h.p19 }⟩
    ·have hi : 18 < d.size := by omega
     have e16 := h.p16 (hpre _ rfl ⟨16, .data⟩ (by simp) rfl)
     have e17 := h.p17 (hpre _ rfl ⟨17, .data⟩ (by simp) rfl)
     have hQ := HQ.out
     refine wpOp_guard rfl (wanted_of (d := 32) rfl rfl (h.p8 (hpre _ rfl ⟨8, .guard⟩ (by simp) rfl))) ?_
     go_simp
     exact ⟨_, rfl, { bel := h.bel, siz := (by simpa using h.siz), kp := rk h.kp, k1 := rs h.k1, k3 := rs h.k3, p0 := rp hi h.p0, p1 := rp hi h.p1, p2 := rp hi h.p2, p3 := rp hi h.p3, p4 := rp hi h.p4, p5 := rp hi h.p5, p6 := rp hi h.p6, p7 := rp hi h.p7, p8 := rp hi h.p8, p9 := rp hi h.p9, p10 := rp hi h.p10, p11 := rp hi h.p11, p12 := rp hi h.p12, p13 := rp hi h.p13, p14 := rp hi h.p14, p15 := rp hi h.p15, p16 := rp hi h.p16, p17 := rp hi h.p17, p18 := fun _ => set_same (by have := h.siz; omega), p19 := rp hi h.p19 }⟩
    ·have hi : 19 < d.size := by omega
     have e8 := h.p8 (hpre _ rfl ⟨8, .data⟩ (by simp) rfl)
     have e18 := h.p18 (hpre _ rfl ⟨18, .data⟩ (by simp) rfl)
     refine wpOp_plain rfl rfl ?_
     go_simp
     exact ⟨_, rfl, { bel := h.bel, siz := (by simpa using h.siz), kp := rk h.kp, k1 := rs h.k1, k3 := rs h.k3, p0 := rp hi h.p0, p1 := rp hi h.p1, p2 := rp hi h.p2, p3 := rp hi h.p3, p4 := rp hi h.p4, p5 := rp hi h.p5, p6 := rp hi h.p6, p7 := rp hi h.p7, p8 := rp hi h.p8, p9 := rp hi h.p9, p10 := rp hi h.p10, p11 := rp hi h.p11, p12 := rp hi h.p12, p13 := rp hi h.p13, p14 := rp hi h.p14, p15 := rp hi h.p15, p16 := rp hi h.p16, p17 := rp hi h.p17, p18 := rp hi h.p18, p19 := fun _ => set_same (by have := h.siz; omega) }⟩
   case gendb =>
    intro d a wc hd hI hall
    obtain ⟨t, rfl, h⟩ := hI
    have hdn : ∀ j, j < 20 → dn d j := fun j hj => dn_all hd hall hj
    have hd : ∀ j, (_ : j < 20 := by decide) → dn d j := fun j hj => hdn j hj
    have hfe := frame_eq [(24, _), (25, _), (26, _), (27, _), (28, _), (29, _), (30, _), (31, _), (32, _), (33, _), (34, _), (35, _), (36, _), (37, _), (38, _), (39, _), (40, _), (41, _), (42, _), (43, _)] (h.siz.trans rfl) h.kp rfl ⟨h.p0 (hd 0), h.p1 (hd 1), h.p2 (hd 2), h.p3 (hd 3), h.p4 (hd 4), h.p5 (hd 5), h.p6 (hd 6), h.p7 (hd 7), h.p8 (hd 8), h.p9 (hd 9), h.p10 (hd 10), h.p11 (hd 11), h.p12 (hd 12), h.p13 (hd 13), h.p14 (hd 14), h.p15 (hd 15), h.p16 (hd 16), h.p17 (hd 17), h.p18 (hd 18), h.p19 (hd 19), trivial⟩
    simp only [List.foldl_cons, List.foldl_nil, List.setIfInBounds_toArray, List.set_cons_succ, List.set_cons_zero] at hfe
    have hbc := h.bel
    subst hfe
    clear h hdn hd hall
    have hbc' := hbc
    clear hbc
    have HBF : Hid (Below w.heap.size w wc) := Lib.hid (HBW.out.trans (hbc'.mono (by omega)))
    cases q
    case true =>
     have HV : Hid (Sg.checkV l = 10) := Lib.hid (HSV.out 10 (by rw [HSG2.out]; rfl) (by decide))
     clear hbc'
     go_wp2_with fail
     go_ret
     exact ⟨ret_int HV.out.symm, HBF.out⟩
    have HSG3 : Hid (Sg.signAt l k = Sg.bodyV l.periods s) := Lib.hid (by rw [HSG2.out]; simp)
    obtain ⟨ev, hev⟩ : ∃ ev, ev = Sg.bodyV l.periods s := ⟨_, rfl⟩
    rw [← hev] at HSI HSG3
    have HBR := Lib.hid hbc'
    have hsw := hbc'.size
    obtain ⟨wr2, hwr2⟩ : ∃ wr2, wr2 = wc := ⟨_, rfl⟩
    have CL2 := Lib.hid (fun W (hW : Below wr2.heap.size wr2 W) => CL2.out W (HBR.out.trans ((hwr2 ▸ hW).mono hsw)))
    have HSI := Lib.hid (fun W (hW : Below wr2.heap.size wr2 W) => HSI.out W (HBR.out.trans ((hwr2 ▸ hW).mono hsw)))
    rw [← hwr2] at HBR HBF hsw
    clear hbc' hev
    go_upto_region 10 with fail
    rw [← hwr2]
    clear hwr2
    clear wc
    refine wp_region_inv2T (fun T0 => RkcI T0 wr2 w.heap.size l.periods b off l.signs.length c0 k s A2 c2 ev true) (by kernel_rfl) (by kernel_rfl) ?g0c ?gstepc ?gendc
    case g0c =>
     have hno : ∀ j, ¬ dn (Array.replicate 9 false) j := by
      intro j; unfold dn; by_cases hj : j < 9 <;> simp [Array.getD, hj]
     have na : ∀ {j : Nat} {Z : Prop}, dn (Array.replicate 9 false) j → Z := fun hj => absurd hj (hno _)
     exact ⟨_, rfl, { bel := (Below.refl _ _).drew, siz := rfl, kp := fun _ _ => rfl, k1 := rfl, k3 := rfl, p0 := na, p1 := na, p2 := na, p3 := na, p4 := na, p5 := na, p6 := na, p7 := na, p8 := na }⟩
    case gstepc =>
     intro T0 d a wc i hd hI hi
     obtain ⟨hlt, hnd, hpre⟩ := mem_ready hi
     have hd' : d.size = 9 := hd
     have hin : i < 9 := hlt
     clear hi hd hlt
     obtain ⟨t, rfl, h⟩ := hI
     have hcs : i = 0 ∨ i = 1 ∨ i = 2 ∨ i = 3 ∨ i = 4 ∨ i = 5 ∨ i = 6 ∨ i = 7 ∨ i = 8 := by omega
     rcases hcs with rfl | rfl | rfl | rfl | rfl | rfl | rfl | rfl | rfl
     ·have hi : 0 < d.size := by omega
      have q1 := h.k1
      refine wpOp_plain rfl rfl ?_
      go_simp
      exact ⟨_, rfl, { bel := h.bel, siz := (by simpa using h.siz), kp := rk h.kp, k1 := rs h.k1, k3 := rs h.k3, p0 := fun _ => set_same (by have := h.siz; omega), p1 := rp hi h.p1, p2 := rp hi h.p2, p3 := rp hi h.p3, p4 := rp hi h.p4, p5 := rp hi h.p5, p6 := rp hi h.p6, p7 := rp hi h.p7, p8 := rp hi h.p8 }⟩
     ·have hi : 1 < d.size := by omega
      have e0 := h.p0 (hpre _ rfl ⟨0, .data⟩ (by simp) rfl)
      obtain ⟨-, m1, -, -, -, -, -⟩ := CL2.out wc h.bel
      refine wpOp_plain rfl rfl ?_
      go_simp
      exact ⟨_, rfl, { bel := h.bel, siz := (by simpa using h.siz), kp := rk h.kp, k1 := rs h.k1, k3 := rs h.k3, p0 := rp hi h.p0, p1 := fun _ => set_same (by have := h.siz; omega), p2 := rp hi h.p2, p3 := rp hi h.p3, p4 := rp hi h.p4, p5 := rp hi h.p5, p6 := rp hi h.p6, p7 := rp hi h.p7, p8 := rp hi h.p8 }⟩
     ·have hi : 2 < d.size := by omega
      have q3 := h.k3
      refine wpOp_plain rfl rfl ?_
      go_simp
      exact ⟨_, rfl, { bel := h.bel, siz := (by simpa using h.siz), kp := rk h.kp, k1 := rs h.k1, k3 := rs h.k3, p0 := rp hi h.p0, p1 := rp hi h.p1, p2 := fun _ => set_same (by have := h.siz; omega), p3 := rp hi h.p3, p4 := rp hi h.p4, p5 := rp hi h.p5, p6 := rp hi h.p6, p7 := rp hi h.p7, p8 := rp hi h.p8 }⟩
     ·have hi : 3 < d.size := by omega
      have e1 := h.p1 (hpre _ rfl ⟨1, .data⟩ (by simp) rfl)
      have e2 := h.p2 (hpre _ rfl ⟨2, .data⟩ (by simp) rfl)
      refine wpOp_plain rfl rfl ?_
      go_simp
      exact ⟨_, rfl, { bel := h.bel, siz := (by simpa using h.siz), kp := rk h.kp, k1 := rs h.k1, k3 := rs h.k3, p0 := rp hi h.p0, p1 := rp hi h.p1, p2 := rp hi h.p2, p3 := fun _ => set_same (by have := h.siz; omega), p4 := rp hi h.p4, p5 := rp hi h.p5, p6 := rp hi h.p6, p7 := rp hi h.p7, p8 := rp hi h.p8 }⟩
     ·have hi : 4 < d.size := by omega
      have e3 := h.p3 (hpre _ rfl ⟨3, .data⟩ (by simp) rfl)
      obtain ⟨-, -, m2, m3, m4, m5, m6⟩ := CL2.out wc h.bel
      refine wpOp_plain rfl rfl ?_
      go_simp
      exact ⟨_, rfl, { bel := h.bel, siz := (by simpa using h.siz), kp := rk h.kp, k1 := rs h.k1, k3 := rs h.k3, p0 := rp hi h.p0, p1 := rp hi h.p1, p2 := rp hi h.p2, p3 := rp hi h.p3, p4 := fun _ => set_same (by have := h.siz; omega), p5 := rp hi h.p5, p6 := rp hi h.p6, p7 := rp hi h.p7, p8 := rp hi h.p8 }⟩
     ·have hi : 5 < d.size := by omega
      have q1 := h.k1
      refine wpOp_plain rfl rfl ?_
      go_simp
      exact ⟨_, rfl, { bel := h.bel, siz := (by simpa using h.siz), kp := rk h.kp, k1 := rs h.k1, k3 := rs h.k3, p0 := rp hi h.p0, p1 := rp hi h.p1, p2 := rp hi h.p2, p3 := rp hi h.p3, p4 := rp hi h.p4, p5 := fun _ => set_same (by have := h.siz; omega), p6 := rp hi h.p6, p7 := rp hi h.p7, p8 := rp hi h.p8 }⟩
     ·have hi : 6 < d.size := by omega
      have e5 := h.p5 (hpre _ rfl ⟨5, .data⟩ (by simp) rfl)
      obtain ⟨m0, -, -, -, -, -, -⟩ := CL2.out wc h.bel
      refine wpOp_plain rfl rfl ?_
      go_simp
      exact ⟨_, rfl, { bel := h.bel, siz := (by simpa using h.siz), kp := rk h.kp, k1 := rs h.k1, k3 := rs h.k3, p0 := rp hi h.p0, p1 := rp hi h.p1, p2 := rp hi h.p2, p3 := rp hi h.p3, p4 := rp hi h.p4, p5 := rp hi h.p5, p6 := fun _ => set_same (by have := h.siz; omega), p7 := rp hi h.p7, p8 := rp hi h.p8 }⟩
     ·have hi : 7 < d.size := by omega
      have e4 := h.p4 (hpre _ rfl ⟨4, .data⟩ (by simp) rfl)
      have e6 := h.p6 (hpre _ rfl ⟨6, .data⟩ (by simp) rfl)
      refine wpOp_plain rfl rfl ?_
      go_simp
      refine (HSI.out wc h.bel).mono ?_
      rintro e1 w1 ⟨rfl, hb⟩
      exact ⟨_, rfl, { bel := h.bel.trans (hb.mono h.bel.size), siz := (by simpa using h.siz), kp := rk h.kp, k1 := rs h.k1, k3 := rs h.k3, p0 := rp hi h.p0, p1 := rp hi h.p1, p2 := rp hi h.p2, p3 := rp hi h.p3, p4 := rp hi h.p4, p5 := rp hi h.p5, p6 := rp hi h.p6, p7 := fun _ => set_same (by have := h.siz; omega), p8 := rp hi h.p8 }⟩
     ·have hi : 8 < d.size := by omega
      have e7 := h.p7 (hpre _ rfl ⟨7, .data⟩ (by simp) rfl)
      refine wpOp_plain rfl rfl ?_
      go_simp
      exact ⟨_, rfl, { bel := h.bel, siz := (by simpa using h.siz), kp := rk h.kp, k1 := rs h.k1, k3 := rs h.k3, p0 := rp hi h.p0, p1 := rp hi h.p1, p2 := rp hi h.p2, p3 := rp hi h.p3, p4 := rp hi h.p4, p5 := rp hi h.p5, p6 := rp hi h.p6, p7 := rp hi h.p7, p8 := fun _ => set_same (by have := h.siz; omega) }⟩
    case gendc =>
     intro d a wc hd hI hall
     obtain ⟨t, rfl, h⟩ := hI
     have hdn : ∀ j, j < 9 → dn d j := fun j hj => dn_all hd hall hj
     have hd : ∀ j, (_ : j < 9 := by decide) → dn d j := fun j hj => hdn j hj
     have hfe := frame_eq [(4, _), (44, _), (45, _), (46, _), (47, _), (48, _), (49, _), (50, _), (51, _)] (h.siz.trans rfl) h.kp rfl ⟨h.p8 (hd 8), h.p0 (hd 0), h.p1 (hd 1), h.p2 (hd 2), h.p3 (hd 3), h.p4 (hd 4), h.p5 (hd 5), h.p6 (hd 6), h.p7 (hd 7), trivial⟩
     simp only [List.foldl_cons, List.foldl_nil, List.setIfInBounds_toArray, List.set_cons_succ, List.set_cons_zero] at hfe
     have hbc := h.bel
     subst hfe
     clear h hdn hd hall
     have hbc' := hbc
     clear hbc
     have HBG : Hid (Below w.heap.size w wc) := Lib.hid (HBF.out.trans (hbc'.mono (by omega)))
     have HBH : Hid (Below (w.heap.size + 1) (w.alloc (.cells #[.int .i64 l.periods, .slice (some ⟨b, off, none⟩) l.signs.length c0] 24)) wc) := Lib.hid (HB.out.trans ((HBR.out.mono (by omega)).trans (hbc'.mono (by omega))))
     clear hbc'
     by_cases h0 : ev = 0
     ·have HZ2 : Hid (∀ i, i < k + 1 → Sg.signAt l i = 0) := Lib.hid fun i hi => by
       by_cases e : i = k
       ·rw [e, HSG3.out, h0]
       ·exact HZ.out i (by omega)
      go_wp2_with fail
      go_roundg (l.signs.length - (k + 1))
      case measure => omega
      case rel => exact ⟨k + 1, by omega, rfl, by go_num, HBH.out, HZ2.out⟩
     ·have HV : Hid (Sg.checkV l = ev) := Lib.hid (HSV.out ev HSG3.out h0)
      go_wp2_with fail
      go_ret
      exact ⟨ret_int HV.out.symm, HBG.out⟩
  ·have HV : Hid (Sg.checkV l = 0) := Lib.hid (by rw [HCV.out]; exact Sg.firstE_zero fun q hq => HZ.out q (by omega))
   go_wp2_with fail
   go_ret
   exact ⟨ret_int HV.out.symm, HBW.out⟩
end Go.Proofs.YtenmkbpdkfhbjaaGreat
