/- signs.Check. Made by gen_gcheck.py. -/
import Derived.Test.YtenmkbpdkfhbjaaGreatRcSgSeen
import Derived.Test.YtenmkbpdkfhbjaaGreatRcIdle
import Derived.Deep.LoopGhost
import Derived.Deep.Light
import Derived.Deep.QuietTactic
import Derived.BigQuiet
namespace Go.Proofs.YtenmkbpdkfhbjaaGreat
open Go Go.RowKit Go.Maps

theorem Sg.signAt_of {l : Sg.SList} {k : Nat} {s : Sg.Sign} (h : l.signs[k]? = some s) : Sg.signAt l k = Sg.signV l.periods (l.signs.take k) s := by simp [Sg.signAt, h]
theorem Sg.valueAt_of {p : Int} {l : List Sg.Value} {k : Nat} {v : Sg.Value} (h : l[k]? = some v) : Sg.valueAt p l k = Sg.valueV p (l.take k) v := by simp [Sg.valueAt, h]
theorem RdX.rds {α : Type} {w : World} {B size : Nat} {enc : α → List Value} {v : Value} {xs : List α} (h : RdX w (· < B) size enc v xs) : RdS w B size enc v xs := h
theorem RdG.len {α : Type} {K : RowK α} {w : World} {ok : Nat → Prop} {v : Value} {xs : List α} (h : RdG K w ok v xs) : xs.length ≤ 9223372036854775807 := by
  obtain ⟨A, c, _, h1, h2, _⟩ := h
  omega
theorem rds_form {α : Type} {w : World} {B size : Nat} {enc : α → List Value} {v : Value} {xs : List α} (h : RdS w B size enc v xs) : ∃ A c, v = .slice A xs.length c ∧ xs.length ≤ c ∧ c ≤ 9223372036854775807 := by
  obtain ⟨A, c, h1, h2, h3, _⟩ := h
  exact ⟨A, c, h1, h2, h3⟩
structure GcvR (T0 : Array Value) (W0 : World) (p : Int) (A0 : Option Addr) (n0 c0 : Nat) (A2 : Option Addr) (n2 c2 j : Nat) (v : Sg.Value) (xb sb vb : Nat) (r : Int) (d : Array Bool) (t : Array Value) (wc : World) : Prop where
  bel : Below W0.heap.size W0 wc
  siz : t.size = 87
  kp : ∀ i, i ∉ ([8, 75, 76, 77, 78, 79, 80, 81] : List Nat) → t[i]? = T0[i]?
  k1 : t[1]? = some (.pointer (some ⟨xb, 0, none⟩))
  k5 : t[5]? = some (.pointer (some ⟨sb, 0, none⟩))
  k6 : t[6]? = some (.int .i64 j)
  k7 : t[7]? = some (.pointer (some ⟨vb, 0, none⟩))
  p0 : dn d 0 → t[75]? = some (.agg #[.int .i64 p, .slice A0 n0 c0])
  p1 : dn d 1 → t[76]? = some (.pointer (some ⟨sb, 4, none⟩))
  p2 : dn d 2 → t[77]? = some (.slice A2 n2 c2)
  p3 : dn d 3 → t[78]? = some (.int .i64 j)
  p4 : dn d 4 → t[79]? = some (.slice A2 j c2)
  p5 : dn d 5 → t[80]? = some (.agg #[.int .i64 v.kind, .string v.text, .int .i64 v.lo, .int .i64 v.hi])
  p6 : dn d 6 → t[81]? = some (.int .i64 r)
  p7 : dn d 7 → t[8]? = some (.int .i64 r)
def GcvI (T0 : Array Value) (W0 : World) (p : Int) (A0 : Option Addr) (n0 c0 : Nat) (A2 : Option Addr) (n2 c2 j : Nat) (v : Sg.Value) (xb sb vb : Nat) (r : Int) (d : Array Bool) (a : Act) (wc : World) : Prop := ∃ t : Array Value, a = ⟨t, []⟩ ∧ GcvR T0 W0 p A0 n0 c0 A2 n2 c2 j v xb sb vb r d t wc

set_option maxRecDepth 100000 in
set_option maxHeartbeats 8000000 in
theorem gCheck_any (v : Value) (l : Sg.SList) (w : World) (hr : RdSL w w.heap.size v l) : Calls Tryz.prog 39 #[v] w (RetIB (Sg.checkV l) w) := by
  obtain ⟨⟨u, rfl, hg⟩, hf⟩ := hr
  have hn0 := hg.len
  obtain ⟨A0, c0, rfl⟩ := hg.form
  have HG0 := Lib.hid hg
  have HFS := Lib.hid hf
  have HBX : Hid (Below w.heap.size w (w.alloc (.cells #[.int .i64 l.periods, .slice A0 l.signs.length c0] 24))) := Lib.hid ((Below.refl _ _).alloc (Nat.le_refl _) _)
  clear hg hf
  by_cases h200 : 200 < l.signs.length
  · have HV : Hid (Sg.checkV l = 2) := Lib.hid (by unfold Sg.checkV; rw [if_pos h200])
    have i1 : (200 : Int) < (l.signs.length : Int) := by omega
    clear h200
    go_enter Tryz.func39, Tryz.ntmps39
    go_wp2_with fail
    go_ret
    exact ⟨ret_int HV.out.symm, HBX.out⟩
  have i1 : ¬ (200 : Int) < (l.signs.length : Int) := by omega
  by_cases hper : l.periods < 1 ∨ 9 < l.periods
  · have HV : Hid (Sg.checkV l = 13) := Lib.hid (by unfold Sg.checkV; rw [if_neg h200, if_pos hper])
    have hor : l.periods < 1 ∨ (¬ l.periods < 1 ∧ 9 < l.periods) := by omega
    clear hper h200
    rcases hor with i2 | ⟨i2, i3⟩
    all_goals
      go_enter Tryz.func39, Tryz.ntmps39
      go_wp2_with fail
      go_ret
      exact ⟨ret_int HV.out.symm, HBX.out⟩
  have HCV : Hid (Sg.checkV l = Sg.firstE (Sg.signAt l) l.signs.length) := Lib.hid (by unfold Sg.checkV; rw [if_neg h200, if_neg hper])
  have i2 : ¬ l.periods < 1 := by omega
  have i3 : ¬ 9 < l.periods := by omega
  clear hper h200
  have hmm := @run_makeMap Tryz.prog
  go_enter Tryz.func39, Tryz.ntmps39
  go_wp2_with fail
  go_loopg [25] l.signs.length (fun g i wr => ∃ k : Nat, k ≤ l.signs.length ∧ g = l.signs.length - k ∧ i = .int .i64 k ∧ Below (w.heap.size + 1) (w.alloc (.cells #[.int .i64 l.periods, .slice A0 l.signs.length c0] 24)) wr ∧ wr.ownsMap Tryz.prog 9 (plainElem Tryz.prog 3) (w.heap.size + 1) k (seenD (l.signs.take k)) ∧ ∀ j, j < k → Sg.signAt l j = 0)
  case atStart => exact ⟨0, Nat.zero_le _, rfl, rfl, (Below.refl _ _).alloc (by simp) _, by simpa [seenD] using World.ownsMap_made (w.alloc (.cells #[.int .i64 l.periods, .slice A0 l.signs.length c0] 24)) _ _ _, fun j hj => absurd hj (Nat.not_lt_zero j)⟩
  case round =>
    obtain ⟨k, hk, rfl, rfl, hbel, hown, hz⟩ := hrel
    have HOW := Lib.hid hown
    have HZ := Lib.hid hz
    have hszk : w.heap.size + 1 < wr.heap.size := hown.lt
    have HBW := Lib.hid (HBX.out.trans (hbel.mono (Nat.le_succ _)))
    have HXB : Hid (wr.heap[w.heap.size]? = some (.cells #[.int .i64 l.periods, .slice A0 l.signs.length c0] 24 (0, 0))) := Lib.hid ((hbel.block _ (by omega)).trans (heap_alloc_new _ _))
    have HB := Lib.hid hbel
    clear hz hbel hown hmm
    by_cases hlt : k < l.signs.length
    · obtain ⟨b, off, rfl, hb, hcell⟩ := HG0.out.five (by omega)
      obtain ⟨s, hs⟩ : ∃ s, l.signs[k]? = some s := ⟨_, List.getElem?_eq_getElem hlt⟩
      obtain ⟨uv, hrd, g0, g1, g2, g3, g4⟩ := hcell k s hs
      have f0 := (HBW.out.cell (p := ⟨b, off + k * 5, none⟩) hb).trans g0
      have f1 := (HBW.out.cell (p := ⟨b, off + k * 5 + 1, none⟩) hb).trans g1
      have f2 := (HBW.out.cell (p := ⟨b, off + k * 5 + 2, none⟩) hb).trans g2
      have f3 := (HBW.out.cell (p := ⟨b, off + k * 5 + 3, none⟩) hb).trans g3
      have f4 := (HBW.out.cell (p := ⟨b, off + k * 5 + 4, none⟩) hb).trans g4
      obtain ⟨A2, c2, rfl, hvc, hvm⟩ := rds_form hrd.rds
      have HRV := Lib.hid hrd.rds
      have hfit := HFS.out s (List.mem_of_getElem? hs)
      have HFV := Lib.hid hfit.2
      have hcs := hfit.1
      have HSG := Lib.hid (Sg.signAt_of hs)
      have HSV : Hid (∀ e, Sg.signAt l k = e → e ≠ 0 → Sg.checkV l = e) := Lib.hid fun e he h0 => by
        rw [HCV.out, ← he]
        exact Sg.firstE_at hlt HZ.out (by rw [he]; exact h0)
      have HNX : Hid (seenD (l.signs.take (k + 1)) = (seenD (l.signs.take k)).put (.string s.code.data.toList) (.lit (.int .i64 1))) := Lib.hid (by
        rw [List.take_add_one, hs]
        exact seenD_snoc _ _)
      have HAT := Lib.hid (seenD_at (l.signs.take k) s.code)
      have HKEY : Hid (keyOf Tryz.prog 9 (.string s.code) = some (.string s.code.data.toList)) := Lib.hid (Go.WideMaps.keyOf_string_mk Tryz.underlying9 hcs)
      clear hcell hs g0 g1 g2 g3 g4 hrd hfit
      obtain ⟨wS, hwS⟩ : ∃ wS, wS = wr.alloc (.cells #[.string s.code, .int .i64 s.wide, .int .i64 s.high, .bool s.even, .slice A2 s.values.length c2] 66) := ⟨_, rfl⟩
      have hsb : wS.heap[wr.heap.size]? = some (.cells #[.string s.code, .int .i64 s.wide, .int .i64 s.high, .bool s.even, .slice A2 s.values.length c2] 66 (0, 0)) := by rw [hwS]; exact heap_alloc_new _ _
      have hbS : Below wr.heap.size wr wS := by rw [hwS]; exact (Below.refl _ _).alloc (Nat.le_refl _) _
      have hszS : wr.heap.size < wS.heap.size := by rw [hwS]; simp
      have HBS := Lib.hid hbS
      have HBWS := Lib.hid (HBW.out.trans (hbS.mono (by omega)))
      have HSB := Lib.hid hsb
      have HOS := Lib.hid (ownsMap_below HOW.out hbS hszk)
      obtain ⟨c, hrun, hat, -⟩ := HOS.out.lookup_int keyedS Tryz.underlying100 Tryz.underlying3 (zeroI _) HKEY.out
      have s0 : wS.cell? ⟨wr.heap.size, 0, none⟩ = some (.string s.code) := by simp [World.cell?, hsb]
      have HWS := Lib.hid hwS
      clear hwS hsb hbS
      go_upto_region 9 with fail
      rw [← HWS.out]
      cases hcb : Sg.codeB s.code
      · have HV : Hid (Sg.checkV l = 10) := Lib.hid (HSV.out 10 (by rw [HSG.out]; unfold Sg.signV; rw [if_pos (.inl hcb)]) (by decide))
        have HCB := Lib.hid hcb
        clear hcb hat hrun
        go_wp2_with (go_at_call 58; refine (gCode_any _ _ (by assumption)).mono ?_; rw [HCB.out]; rintro e w1 ⟨rfl, rfl⟩)
        go_ret
        exact ⟨ret_int HV.out.symm, HBWS.out⟩
      have HCB := Lib.hid hcb
      rw [HAT.out] at hat
      cases hany : (l.signs.take k).any (fun t => decide (t.code = s.code))
      case true =>
        have HV : Hid (Sg.checkV l = 10) := Lib.hid (HSV.out 10 (by rw [HSG.out]; unfold Sg.signV; rw [if_pos (.inr hany)]) (by decide))
        rw [hany] at hat
        obtain rfl : c = 1 := by simpa using hat.symm
        clear hcb hat hany
        go_wp2_with (go_at_call 58; refine (gCode_any _ _ (by assumption)).mono ?_; rw [HCB.out]; rintro e w1 ⟨rfl, rfl⟩)
        go_ret
        exact ⟨ret_int HV.out.symm, HBWS.out⟩
      have HSG2 : Hid (Sg.signAt l k = Sg.bodyV l.periods s) := Lib.hid (by rw [HSG.out]; unfold Sg.signV; rw [if_neg (by rw [hcb, hany]; simp)])
      rw [hany] at hat
      obtain rfl : c = 0 := by simpa using hat.symm
      clear hcb hat hany
      go_upto_region 12 with (first
        | (go_at_call 58; refine (gCode_any _ _ (by assumption)).mono ?_; rw [HCB.out]; rintro e w1 ⟨rfl, rfl⟩)
        | (at_mapUpdate; refine wpList_mapUpdate_own _ rfl _ _ _ 100 rfl 9 3 keyedS Tryz.underlying100 _ (w.heap.size + 1) k _ rfl HOS.out (by unfold maxLen; omega) _ _ _ rfl rfl HKEY.out _ [] (plainElem_int Tryz.underlying3 (by decide)) ?_; intro wm hown1 hgrow1))
      have hownM : wm.ownsMap Tryz.prog 9 (plainElem Tryz.prog 3) (w.heap.size + 1) (k + 1) (seenD (l.signs.take (k + 1))) := by rw [HNX.out]; exact hown1
      have hszM := hgrow1.size
      have hsbM : wm.heap[wr.heap.size]? = some (.cells #[.string s.code, .int .i64 s.wide, .int .i64 s.high, .bool s.even, .slice A2 s.values.length c2] 66 (0, 0)) := (hgrow1.block _ (by omega) (by simp; omega)).trans HSB.out
      have hxbM : wm.heap[w.heap.size]? = some (.cells #[.int .i64 l.periods, .slice (some ⟨b, off, none⟩) l.signs.length c0] 24 (0, 0)) := (hgrow1.block _ (by omega) (by simp)).trans ((HBS.out.block _ (by omega)).trans HXB.out)
      have HBM : Hid (Below w.heap.size w wm) := Lib.hid (HBWS.out.grown hgrow1 (by omega) (by intro q hq; cases hq; omega))
      have HBM1 : Hid (Below (w.heap.size + 1) (w.alloc (.cells #[.int .i64 l.periods, .slice (some ⟨b, off, none⟩) l.signs.length c0] 24)) wm) := Lib.hid ((HB.out.trans (HBS.out.mono (by omega))).grown hgrow1 (by omega) (by intro q hq; cases hq; omega))
      have m1 : wm.cell? ⟨wr.heap.size, 1, none⟩ = some (.int .i64 s.wide) := by simp [World.cell?, hsbM]
      have m2 : wm.cell? ⟨wr.heap.size, 2, none⟩ = some (.int .i64 s.high) := by simp [World.cell?, hsbM]
      have m4 : wm.cell? ⟨wr.heap.size, 4, none⟩ = some (.slice A2 s.values.length c2) := by simp [World.cell?, hsbM]
      have HOM := Lib.hid hownM
      have HSBM := Lib.hid hsbM
      have HXBM := Lib.hid hxbM
      have hszM' : wr.heap.size < wm.heap.size := by omega
      have hltm : w.heap.size < wm.heap.size := by omega
      clear hown1 hgrow1 hownM hsbM hxbM hrun f0 f1 f2 f3 f4 s0 hszS hszM
      by_cases hsz : Sg.sizeBad s
      · have HV : Hid (Sg.checkV l = 11) := Lib.hid (HSV.out 11 (by rw [HSG2.out]; unfold Sg.bodyV; rw [if_pos hsz]) (by decide))
        have hor : s.wide < 1 ∨ (¬ s.wide < 1 ∧ 12 < s.wide) ∨ (¬ s.wide < 1 ∧ ¬ 12 < s.wide ∧ s.high < 1) ∨ (¬ s.wide < 1 ∧ ¬ 12 < s.wide ∧ ¬ s.high < 1 ∧ 12 < s.high) := by unfold Sg.sizeBad at hsz; omega
        clear hsz
        rcases hor with q1 | ⟨q1, q2⟩ | ⟨q1, q2, q3⟩ | ⟨q1, q2, q3, q4⟩
        all_goals
          go_wp2_with fail
          go_ret
          exact ⟨ret_int HV.out.symm, HBM.out⟩
      have HSZ := Lib.hid hsz
      obtain ⟨q1, q2, q3, q4⟩ : ¬ s.wide < 1 ∧ ¬ 12 < s.wide ∧ ¬ s.high < 1 ∧ ¬ 12 < s.high := by unfold Sg.sizeBad at hsz; omega
      clear hsz
      by_cases hmv : 12 < s.values.length
      · have HV : Hid (Sg.checkV l = 2) := Lib.hid (HSV.out 2 (by rw [HSG2.out]; unfold Sg.bodyV; rw [if_neg HSZ.out, if_pos hmv]) (by decide))
        have j1 : (12 : Int) < (s.values.length : Int) := by omega
        clear hmv
        go_wp2_with fail
        go_ret
        exact ⟨ret_int HV.out.symm, HBM.out⟩
      have HMV := Lib.hid hmv
      have j1 : ¬ (12 : Int) < (s.values.length : Int) := by omega
      clear hmv
      go_wp2_with fail
      clear m1 m2 m4 q1 q2 q3 q4
      go_loopg [70] s.values.length (fun g i wi => ∃ j : Nat, j ≤ s.values.length ∧ g = s.values.length - j ∧ i = .int .i64 j ∧ Below wm.heap.size wm wi ∧ ∀ i, i < j → Sg.valueAt l.periods s.values i = 0)
      case atStart => exact ⟨0, Nat.zero_le _, rfl, rfl, Below.refl _ _, fun j hj => absurd hj (Nat.not_lt_zero j)⟩
      case round =>
        rename World => wi
        obtain ⟨j, hj, rfl, rfl, hbel, hgj⟩ := hrel
        have HBJ := Lib.hid hbel
        have HGJ := Lib.hid hgj
        have hszi := hbel.size
        clear hbel hgj
        by_cases hltj : j < s.values.length
        · obtain ⟨y, hy⟩ : ∃ y, s.values[j]? = some y := ⟨_, List.getElem?_eq_getElem hltj⟩
          obtain ⟨bv, ov, rfl, hbv, hcv⟩ := RdX.four HRV.out (by omega)
          obtain ⟨g0, g1, g2, g3⟩ := hcv j y hy
          have HBI := Lib.hid (HBM.out.trans (HBJ.out.mono (by omega)))
          have f0 := (HBI.out.cell (p := ⟨bv, ov + j * 4, none⟩) hbv).trans g0
          have f1 := (HBI.out.cell (p := ⟨bv, ov + j * 4 + 1, none⟩) hbv).trans g1
          have f2 := (HBI.out.cell (p := ⟨bv, ov + j * 4 + 2, none⟩) hbv).trans g2
          have f3 := (HBI.out.cell (p := ⟨bv, ov + j * 4 + 3, none⟩) hbv).trans g3
          have hfy : y.text.size ≤ maxLen := HFV.out y (List.mem_of_getElem? hy)
          have HVA := Lib.hid (Sg.valueAt_of (p := l.periods) hy)
          obtain ⟨W2, hW2⟩ : ∃ W2, W2 = wi.alloc (.cells #[.int .i64 y.kind, .string y.text, .int .i64 y.lo, .int .i64 y.hi] 103) := ⟨_, rfl⟩
          have hvb : W2.heap[wi.heap.size]? = some (.cells #[.int .i64 y.kind, .string y.text, .int .i64 y.lo, .int .i64 y.hi] 103 (0, 0)) := by rw [hW2]; exact heap_alloc_new _ _
          have hb2 : Below wi.heap.size wi W2 := by rw [hW2]; exact (Below.refl _ _).alloc (Nat.le_refl _) _
          have hsz2 : wi.heap.size < W2.heap.size := by rw [hW2]; simp
          have HBV2 : Hid (Below wm.heap.size wi W2) := Lib.hid (hb2.mono hszi)
          have HBV3 : Hid (Below w.heap.size w W2) := Lib.hid (HBI.out.trans (hb2.mono (by omega)))
          have CL2 : Hid (∀ W, Below W2.heap.size W2 W → W.cell? ⟨w.heap.size, 0, none⟩ = some (.int .i64 l.periods) ∧ W.cell? ⟨w.heap.size, 1, none⟩ = some (.slice (some ⟨b, off, none⟩) l.signs.length c0) ∧ W.cell? ⟨wr.heap.size, 4, none⟩ = some (.slice (some ⟨bv, ov, none⟩) s.values.length c2) ∧
              W.cell? ⟨wi.heap.size, 0, none⟩ = some (.int .i64 y.kind) ∧ W.cell? ⟨wi.heap.size, 1, none⟩ = some (.string y.text) ∧ W.cell? ⟨wi.heap.size, 2, none⟩ = some (.int .i64 y.lo) ∧ W.cell? ⟨wi.heap.size, 3, none⟩ = some (.int .i64 y.hi)) := Lib.hid fun W hW => by
            have r1 := (hW.block (w.heap.size) (by omega)).trans ((hb2.block _ (by omega)).trans ((HBJ.out.block _ (by omega)).trans HXBM.out))
            have r2 := (hW.block (wr.heap.size) (by omega)).trans ((hb2.block _ (by omega)).trans ((HBJ.out.block _ (by omega)).trans HSBM.out))
            have r3 := (hW.block (wi.heap.size) (by omega)).trans hvb
            exact ⟨by simp [World.cell?, r1], by simp [World.cell?, r1], by simp [World.cell?, r2], by simp [World.cell?, r3], by simp [World.cell?, r3], by simp [World.cell?, r3], by simp [World.cell?, r3]⟩
          have HCVV : Hid (∀ W, Below W2.heap.size W2 W → Calls Tryz.prog 59 #[.agg #[.int .i64 l.periods, .slice (some ⟨b, off, none⟩) l.signs.length c0], .slice (some ⟨bv, ov, none⟩) j c2, .agg #[.int .i64 y.kind, .string y.text, .int .i64 y.lo, .int .i64 y.hi]] W (RetIB (Sg.valueAt l.periods s.values j) W)) := Lib.hid fun W hW => by
            rw [HVA.out]
            have hWw := HBV3.out.trans (hW.mono (by omega))
            exact gCheckValue_any l.periods _ _ _ _ (s.values.take j) y W (rds_take ((HRV.out.below hWw).more hWw.size) (by omega)) hfy
          have HW2 := Lib.hid hW2
          have hjI : (0 : Int) ≤ (j : Int) := by omega
          have hjJ : (j : Int) < (s.values.length : Int) := by omega
          clear hW2 hvb hb2 hcv hy g0 g1 g2 g3
          go_upto_region 19 with fail
          rw [← HW2.out]
          clear f0 f1 f2 f3
          refine wp_region_inv2T (fun T0 => GcvI T0 W2 l.periods (some ⟨b, off, none⟩) l.signs.length c0 (some ⟨bv, ov, none⟩) s.values.length c2 j y w.heap.size wr.heap.size wi.heap.size (Sg.valueAt l.periods s.values j)) (by kernel_rfl) (by kernel_rfl) ?g0c ?gstepc ?gendc
          case g0c =>
            have hno : ∀ j, ¬ dn (Array.replicate 8 false) j := by
              intro j; unfold dn; by_cases hj : j < 8 <;> simp [Array.getD, hj]
            have na : ∀ {j : Nat} {Z : Prop}, dn (Array.replicate 8 false) j → Z := fun hj => absurd hj (hno _)
            exact ⟨_, rfl, { bel := (Below.refl _ _).drew, siz := rfl, kp := fun _ _ => rfl, k1 := rfl, k5 := rfl, k6 := rfl, k7 := rfl, p0 := na, p1 := na, p2 := na, p3 := na, p4 := na, p5 := na, p6 := na, p7 := na }⟩
          case gstepc =>
            intro T0 d a wc i hd hI hi
            obtain ⟨hlt, hnd, hpre⟩ := mem_ready hi
            have hd' : d.size = 8 := hd
            have hin : i < 8 := hlt
            clear hi hd hlt
            obtain ⟨t, rfl, h⟩ := hI
            have hcs : i = 0 ∨ i = 1 ∨ i = 2 ∨ i = 3 ∨ i = 4 ∨ i = 5 ∨ i = 6 ∨ i = 7 := by omega
            rcases hcs with rfl | rfl | rfl | rfl | rfl | rfl | rfl | rfl
            · have hi : 0 < d.size := by omega
              have q1 := h.k1
              obtain ⟨m0, m1, -⟩ := CL2.out wc h.bel
              refine wpOp_plain rfl rfl ?_
              go_simp
              exact ⟨_, rfl, { bel := h.bel, siz := (by simpa using h.siz), kp := rk h.kp, k1 := rs h.k1, k5 := rs h.k5, k6 := rs h.k6, k7 := rs h.k7, p0 := fun _ => set_same (by have := h.siz; omega), p1 := rp hi h.p1, p2 := rp hi h.p2, p3 := rp hi h.p3, p4 := rp hi h.p4, p5 := rp hi h.p5, p6 := rp hi h.p6, p7 := rp hi h.p7 }⟩
            · have hi : 1 < d.size := by omega
              have q5 := h.k5
              refine wpOp_plain rfl rfl ?_
              go_simp
              exact ⟨_, rfl, { bel := h.bel, siz := (by simpa using h.siz), kp := rk h.kp, k1 := rs h.k1, k5 := rs h.k5, k6 := rs h.k6, k7 := rs h.k7, p0 := rp hi h.p0, p1 := fun _ => set_same (by have := h.siz; omega), p2 := rp hi h.p2, p3 := rp hi h.p3, p4 := rp hi h.p4, p5 := rp hi h.p5, p6 := rp hi h.p6, p7 := rp hi h.p7 }⟩
            · have hi : 2 < d.size := by omega
              have e1 := h.p1 (hpre _ rfl ⟨1, .data⟩ (by simp) rfl)
              obtain ⟨-, -, m4, -⟩ := CL2.out wc h.bel
              refine wpOp_plain rfl rfl ?_
              go_simp
              exact ⟨_, rfl, { bel := h.bel, siz := (by simpa using h.siz), kp := rk h.kp, k1 := rs h.k1, k5 := rs h.k5, k6 := rs h.k6, k7 := rs h.k7, p0 := rp hi h.p0, p1 := rp hi h.p1, p2 := fun _ => set_same (by have := h.siz; omega), p3 := rp hi h.p3, p4 := rp hi h.p4, p5 := rp hi h.p5, p6 := rp hi h.p6, p7 := rp hi h.p7 }⟩
            · have hi : 3 < d.size := by omega
              have q6 := h.k6
              refine wpOp_plain rfl rfl ?_
              go_simp
              exact ⟨_, rfl, { bel := h.bel, siz := (by simpa using h.siz), kp := rk h.kp, k1 := rs h.k1, k5 := rs h.k5, k6 := rs h.k6, k7 := rs h.k7, p0 := rp hi h.p0, p1 := rp hi h.p1, p2 := rp hi h.p2, p3 := fun _ => set_same (by have := h.siz; omega), p4 := rp hi h.p4, p5 := rp hi h.p5, p6 := rp hi h.p6, p7 := rp hi h.p7 }⟩
            · have hi : 4 < d.size := by omega
              have e2 := h.p2 (hpre _ rfl ⟨2, .data⟩ (by simp) rfl)
              have e3 := h.p3 (hpre _ rfl ⟨3, .data⟩ (by simp) rfl)
              have hj0 : (0 : Int) ≤ (j : Int) := by omega
              have hj1 : (j : Int) ≤ (c2 : Int) := by omega
              have hj2 : j ≤ c2 := by omega
              refine wpOp_plain rfl rfl ?_
              go_simp
              exact ⟨_, rfl, { bel := h.bel, siz := (by simpa using h.siz), kp := rk h.kp, k1 := rs h.k1, k5 := rs h.k5, k6 := rs h.k6, k7 := rs h.k7, p0 := rp hi h.p0, p1 := rp hi h.p1, p2 := rp hi h.p2, p3 := rp hi h.p3, p4 := fun _ => set_same (by have := h.siz; omega), p5 := rp hi h.p5, p6 := rp hi h.p6, p7 := rp hi h.p7 }⟩
            · have hi : 5 < d.size := by omega
              have q7 := h.k7
              obtain ⟨-, -, -, m5, m6, m7, m8⟩ := CL2.out wc h.bel
              refine wpOp_plain rfl rfl ?_
              go_simp
              exact ⟨_, rfl, { bel := h.bel, siz := (by simpa using h.siz), kp := rk h.kp, k1 := rs h.k1, k5 := rs h.k5, k6 := rs h.k6, k7 := rs h.k7, p0 := rp hi h.p0, p1 := rp hi h.p1, p2 := rp hi h.p2, p3 := rp hi h.p3, p4 := rp hi h.p4, p5 := fun _ => set_same (by have := h.siz; omega), p6 := rp hi h.p6, p7 := rp hi h.p7 }⟩
            · have hi : 6 < d.size := by omega
              have e0 := h.p0 (hpre _ rfl ⟨0, .data⟩ (by simp) rfl)
              have e4 := h.p4 (hpre _ rfl ⟨4, .data⟩ (by simp) rfl)
              have e5 := h.p5 (hpre _ rfl ⟨5, .data⟩ (by simp) rfl)
              refine wpOp_plain rfl rfl ?_
              go_simp
              refine (HCVV.out wc h.bel).mono ?_
              rintro e1 w1 ⟨rfl, hb⟩
              exact ⟨_, rfl, { bel := h.bel.trans (hb.mono h.bel.size), siz := (by simpa using h.siz), kp := rk h.kp, k1 := rs h.k1, k5 := rs h.k5, k6 := rs h.k6, k7 := rs h.k7, p0 := rp hi h.p0, p1 := rp hi h.p1, p2 := rp hi h.p2, p3 := rp hi h.p3, p4 := rp hi h.p4, p5 := rp hi h.p5, p6 := fun _ => set_same (by have := h.siz; omega), p7 := rp hi h.p7 }⟩
            · have hi : 7 < d.size := by omega
              have e6 := h.p6 (hpre _ rfl ⟨6, .data⟩ (by simp) rfl)
              refine wpOp_plain rfl rfl ?_
              go_simp
              exact ⟨_, rfl, { bel := h.bel, siz := (by simpa using h.siz), kp := rk h.kp, k1 := rs h.k1, k5 := rs h.k5, k6 := rs h.k6, k7 := rs h.k7, p0 := rp hi h.p0, p1 := rp hi h.p1, p2 := rp hi h.p2, p3 := rp hi h.p3, p4 := rp hi h.p4, p5 := rp hi h.p5, p6 := rp hi h.p6, p7 := fun _ => set_same (by have := h.siz; omega) }⟩
          case gendc =>
            intro d a wc hd hI hall
            obtain ⟨t, rfl, h⟩ := hI
            have hdn : ∀ j, j < 8 → dn d j := fun j hj => dn_all hd hall hj
            have hd : ∀ j, (_ : j < 8 := by decide) → dn d j := fun j hj => hdn j hj
            have hfe := frame_eq [(8, _), (75, _), (76, _), (77, _), (78, _), (79, _), (80, _), (81, _)] (h.siz.trans rfl) h.kp rfl ⟨h.p7 (hd 7), h.p0 (hd 0), h.p1 (hd 1), h.p2 (hd 2), h.p3 (hd 3), h.p4 (hd 4), h.p5 (hd 5), h.p6 (hd 6), trivial⟩
            simp only [List.foldl_cons, List.foldl_nil, List.setIfInBounds_toArray, List.set_cons_succ, List.set_cons_zero] at hfe
            have hbc := h.bel
            subst hfe
            clear h hdn hd hall
            have hbc' := hbc
            clear hbc
            have HBW := Lib.hid (HBJ.out.trans (HBV2.out.trans (hbc'.mono (by omega))))
            clear hbc'
            by_cases hz : Sg.valueAt l.periods s.values j = 0
            · have HG2 : Hid (∀ i, i < j + 1 → Sg.valueAt l.periods s.values i = 0) := Lib.hid fun i hi => by
                by_cases e : i = j
                · rw [e]; exact hz
                · exact HGJ.out i (by omega)
              go_wp2_with fail
              go_roundg (s.values.length - (j + 1))
              case measure => omega
              case rel => exact ⟨j + 1, by omega, rfl, by go_num, HBW.out, HG2.out⟩
            · have HV : Hid (Sg.checkV l = Sg.valueAt l.periods s.values j) := Lib.hid (HSV.out _ (by
                rw [HSG2.out]
                unfold Sg.bodyV Sg.valuesV
                rw [if_neg HSZ.out, if_neg HMV.out]
                exact Sg.firstE_at hltj HGJ.out hz) hz)
              go_wp2_with fail
              go_ret
              exact ⟨ret_int HV.out.symm, HBM.out.trans (HBW.out.mono (by omega))⟩
        · have HZ2 : Hid (∀ i, i < k + 1 → Sg.signAt l i = 0) := Lib.hid fun i hi => by
            by_cases e : i = k
            · subst e
              rw [HSG2.out]
              unfold Sg.bodyV Sg.valuesV
              rw [if_neg HSZ.out, if_neg HMV.out]
              exact Sg.firstE_zero fun q hq => HGJ.out q (by omega)
            · exact HZ.out i (by omega)
          go_wp2_with fail
          go_roundg (l.signs.length - (k + 1))
          case measure => omega
          case rel => exact ⟨k + 1, by omega, rfl, by go_num, HBM1.out.trans (HBJ.out.mono (by omega)), ownsMap_below HOM.out HBJ.out (by omega), HZ2.out⟩
    · have HV : Hid (Sg.checkV l = 0) := Lib.hid (by rw [HCV.out]; exact Sg.firstE_zero fun j hj => HZ.out j (by omega))
      go_wp2_with fail
      go_ret
      exact ⟨ret_int HV.out.symm, HBW.out⟩
end Go.Proofs.YtenmkbpdkfhbjaaGreat
