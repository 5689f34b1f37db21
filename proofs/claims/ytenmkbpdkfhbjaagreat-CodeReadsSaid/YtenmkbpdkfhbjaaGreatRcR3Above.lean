/- The document's reader: a row.; The document's reader: a column. -/
import Derived.Test.YtenmkbpdkfhbjaaGreatRcR3Kids
namespace Go.Proofs.YtenmkbpdkfhbjaaGreat
open Go Go.RowKit

theorem retO_bad {R : Nat} {L : Sg.SList} {As : Option Addr} {cs : Nat} {s : ByteArray} {kind u u' : Int} {q : Cd.R (Cd.Item × Bool)} {w w' : World} {k n c : Nat} {A : Option Addr} {b : Bool} (hg : w.grownBy w' (some R)) (hr : R3Is R L As cs s kind k u' w') (hq : q = .bad k) : RetO R L As cs s kind u q w (.returned (.tuple #[.slice A n c, .bool b, .bool false])) w' := by
 subst hq
 exact ⟨hg, A, n, c, b, u', rfl, hr⟩
theorem retO_ok {R : Nat} {L : Sg.SList} {As : Option Addr} {cs : Nat} {s : ByteArray} {kind u : Int} {q : Cd.R (Cd.Item × Bool)} {w w' : World} {k c : Nat} {A : Option Addr} {x : Cd.Item} {b : Bool} (h : RetR R L As cs s kind u (.ok x k) w (.returned (.tuple #[.slice A (Cd.nodI L x).length c, .bool true])) w') (hq : q = .ok (x, b) k) :
  RetO R L As cs s kind u q w (.returned (.tuple #[.slice A (Cd.nodI L x).length c, .bool b, .bool true])) w' := by
 subst hq
 obtain ⟨h1, A', c', h2, h3, h4⟩ := h
 injection h2 with h2
 injection h2 with h2
 simp only [Array.mk.injEq, List.cons.injEq, Value.slice.injEq] at h2
 obtain ⟨⟨rfl, -, rfl⟩, -⟩ := h2
 exact ⟨h1, A, c, rfl, h3, h4⟩
set_option maxRecDepth 100000 in
set_option maxHeartbeats 16000000 in
theorem beside3_any (R : Nat) (L : Sg.SList) (As : Option Addr) (cs : Nat) (s : ByteArray) (kind : Int) (ov : Nat → Cd.R (Cd.Item × Bool)) (k : Nat) (u : Int) (w : World) (h : R3Is R L As cs s kind k u w) (hs : s.size ≤ 1000000)
  (hov : ∀ (j : Nat) (u : Int) (W : World), k ≤ j → w.grownBy W (some R) → R3Is R L As cs s kind j u W → Calls Tryz.prog 122 #[.pointer (some ⟨R, 0, none⟩)] W (RetO R L As cs s kind u (ov j) W)) (hmono : ∀ j, j ≤ (ov j).pos) (hsz : ∀ j, Cd.SzO j (ov j)) :
  Calls Tryz.prog 117 #[.pointer (some ⟨R, 0, none⟩)] w (RetR R L As cs s kind u (Cd.besideG s.data.toList ov k) w) := by
 have HTK := Lib.hid (fun (j : Nat) (u : Int) (c : UInt8) (W : World) (hr : R3Is R L As cs s kind j u W) => takes3_any R L As cs s kind j u c W hr hs)
 have HSE := Lib.hid (fun (j : Nat) (u : Int) (c : UInt8) (W : World) (hr : R3Is R L As cs s kind j u W) => sees3_any R L As cs s kind j u c W hr)
 have HOV := Lib.hid hov
 obtain ⟨p, hp⟩ : ∃ p : Nat → Cd.R Cd.Item, p = fun j => (ov j).bind fun y j1 => .ok y.1 j1 := ⟨_, rfl⟩
 have HP := Lib.hid hp
 have HSZ := Lib.hid hsz
 have HMO := Lib.hid hmono
 have HQ := Lib.hid (Cd.beside_3 (s := s.data.toList) ov k)
 rw [← hp] at HQ
 clear hp hov hmono hsz
 have HRl := Lib.hid h.lt
 have HG := Lib.hid (HOV.out k u w (Nat.le_refl _) (grown_refl w _) h)
 unfold RetO at HG
 clear h
 go_enter Tryz.func117, Tryz.ntmps117
 go_wp2_with fail
 have hm0 := HMO.out k
 have hz0 := HSZ.out k
 cases hq : ov k with
 | bad jb =>
  rw [hq] at HG HQ
  clear hq hm0 hz0
  refine HG.out.mono ?_
  rintro e w1 ⟨hg1, A, n, c, b, u1, rfl, hr1⟩
  have HRES := Lib.hid (retR_bad (u := u) (A := none) (n := 0) (c := 0) hg1 hr1 HQ.out)
  clear hg1 hr1
  go_wp2_with fail
  refine bodyPost_ret (results_tmp2 rfl _ _ _) rfl ?_
  exact HRES.out
 | ok x k1 =>
  rw [hq] at HG HQ hm0 hz0
  have hk1 : k ≤ k1 := hm0
  have hx1 : Cd.sizeI x.1 ≤ k1 := by have := hz0.1; omega
  clear hq hm0 hz0
  obtain ⟨x, bx⟩ := x
  simp only at hx1
  refine HG.out.mono ?_
  rintro e w1 ⟨hg1, A, c, rfl, hr1, hxr⟩
  have HS1 := Lib.hid (HSE.out k1 _ 42 w1 hr1)
  unfold RetB3 at HS1
  have HG1 := Lib.hid hg1
  have HR1 := Lib.hid hr1
  have HX1 := Lib.hid hxr
  clear hg1 hr1 hxr
  cases hsee : Cd.sees s.data.toList k1 42
  ·rw [hsee] at HS1
   cases bx
   ·have HQ2 : Hid (Cd.besideG s.data.toList ov k = .ok x k1) := Lib.hid (by rw [HQ.out]; simp only [Cd.R.bind]; rw [if_neg (by rw [hsee]; exact Bool.false_ne_true), if_neg Bool.false_ne_true])
    clear hsee
    go_wp2_with fail
    refine HS1.out.mono ?_
    rintro e w2 ⟨rfl, hb2⟩
    have HB2 := Lib.hid hb2
    clear hb2
    go_wp2_with fail
    refine bodyPost_ret (results_tmp2 rfl _ _ _) rfl ?_
    rw [HQ2.out]
    exact ⟨grown_below HG1.out HB2.out, A, c, rfl, HR1.out.below HB2.out, HX1.out.keep fun b hb => ⟨⟨hb.1, Nat.lt_of_lt_of_le hb.2 HB2.out.size⟩, HB2.out.block b hb.2⟩⟩
   ·have HQ2 : Hid (Cd.besideG s.data.toList ov k = .bad k1) := Lib.hid (by rw [HQ.out]; simp only [Cd.R.bind]; rw [if_neg (by rw [hsee]; exact Bool.false_ne_true), if_pos trivial])
    clear hsee
    go_wp2_with fail
    refine HS1.out.mono ?_
    rintro e w2 ⟨rfl, hb2⟩
    have HB2 := Lib.hid hb2
    clear hb2
    go_wp2_with fail
    refine bodyPost_ret (results_tmp2 rfl _ _ _) rfl ?_
    exact retR_bad (grown_below HG1.out HB2.out) (HR1.out.below HB2.out) HQ2.out
  ·rw [hsee] at HS1
   obtain ⟨T, hT⟩ : ∃ T, T = Cd.cont [x] (Cd.restG s.data.toList p 42 (Cd.N s.data.toList) k1) := ⟨_, rfl⟩
   have HQ2 : Hid (Cd.besideG s.data.toList ov k = T.bind fun xs k2 => .ok (.mk (Cd.kindN 2) [] 0 xs) k2) := Lib.hid (by rw [HQ.out, hT]; simp only [Cd.R.bind]; rw [if_pos hsee])
   have HT := Lib.hid hT
   clear hsee hT HQ
   go_wp2_with fail
   refine HS1.out.mono ?_
   rintro e w2 ⟨rfl, hb2⟩
   have HB2 := Lib.hid hb2
   have HX2 : Hid (RdX w2 (okF w w2) 8 encN (.slice A (Cd.nodI L x).length c) (Cd.nodI L x)) := Lib.hid (HX1.out.keep fun b hb => ⟨⟨hb.1, Nat.lt_of_lt_of_le hb.2 hb2.size⟩, hb2.block b hb.2⟩)
   obtain ⟨wl, hwl⟩ : ∃ wl, wl = w2.alloc (.cells #[.slice A (Cd.nodI L x).length c] 25) := ⟨_, rfl⟩
   have HK : Hid (Lp3 w R L As cs s kind u p 42 T k k1 (Cd.N s.data.toList) (.slice (some ⟨w2.heap.size, 0, none⟩) 1 1) [x] wl) := Lib.hid ⟨by rw [hwl]; exact K3.first (grown_below HG1.out hb2) (HR1.out.below hb2) HRl.out HX2.out hx1, HT.out.symm, by unfold Cd.N; omega, hk1⟩
   have HWL := Lib.hid hwl
   clear hb2 hwl
   go_upto_block 0 with fail
   rw [← HWL.out]
   clear HWL
   go_wp2_with fail
   go_loopg [7] (s.size - k1 + 1) (fun g v wr => ∃ xs j n, g = s.size - j + 1 ∧ Lp3 w R L As cs s kind u p 42 T k j n v xs wr)
   case atStart => exact ⟨[x], k1, _, rfl, HK.out⟩
   case round =>
    clear HK
    obtain ⟨xs, j, n, rfl, hl⟩ := hrel
    have HL := Lib.hid hl
    obtain ⟨Ak, ck, rfl⟩ := hl.st.form
    have HI := Lib.hid (HTK.out j _ 42 wr hl.st.r)
    unfold RetTk at HI
    clear hl
    cases hsee : Cd.sees s.data.toList j 42
    ·rw [hsee] at HI
     have HT2 : Hid (T = .ok xs j) := Lib.hid (by rw [← HL.out.tot]; exact Cd.rest_stop hsee)
     have HQT : Hid (Cd.besideG s.data.toList ov k = .ok (.mk (Cd.kindN 2) [] 0 xs) j) := Lib.hid (by rw [HQ2.out, HT2.out]; rfl)
     clear hsee
     go_wp2_with fail
     refine HI.out.mono ?_
     rintro e w5 ⟨rfl, hg5, hr5⟩
     rw [if_neg Bool.false_ne_true] at hr5
     have HK5 := Lib.hid (HL.out.st.call hg5 hr5 (Nat.le_refl _))
     have HW5 := Lib.hid (HK5.out.wrap (q := 2) (by decide) hs)
     clear hg5 hr5 HI
     go_wp2_with fail
     refine HW5.out.mono ?_
     rintro e w6 ⟨A6, c6, rfl, -, hr6⟩
     have HR6 := Lib.hid hr6
     clear hr6
     go_wp2_with fail
     refine bodyPost_ret (results_tmp2 rfl _ _ _) rfl ?_
     rw [HQT.out]
     exact HR6.out
    ·rw [hsee] at HI
     have hjs := Cd.sees_lt' hsee
     have HTB := Lib.hid (fun (jb : Nat) (hp : p (j + 1) = .bad jb) => (HL.out.tot).symm.trans (Cd.rest_bad hsee HL.out.fuel hp))
     have HTM := Lib.hid (fun (y : Cd.Item) (j1 : Nat) (hp : p (j + 1) = .ok y j1) (hk : j + 1 ≤ j1) => Cd.rest_more (xs := xs) hsee HL.out.fuel hp hk)
     clear hsee
     go_wp2_with fail
     refine HI.out.mono ?_
     rintro e w5 ⟨rfl, hg5, hr5⟩
     rw [if_pos trivial] at hr5
     have HK5 := Lib.hid (HL.out.st.call hg5 hr5 (Nat.le_succ _))
     have HG5 := Lib.hid (HOV.out (j + 1) _ w5 (by have := HL.out.le; omega) HK5.out.g HK5.out.r)
     unfold RetO at HG5
     have hmo := HMO.out (j + 1)
     have hzo := HSZ.out (j + 1)
     clear hg5 hr5 HI
     cases hq : ov (j + 1) with
     | bad jb =>
      rw [hq] at HG5
      have HTT := Lib.hid (HTB.out jb (by rw [HP.out]; simp only; rw [hq]; rfl))
      have HQB : Hid (Cd.besideG s.data.toList ov k = .bad jb) := Lib.hid (by rw [HQ2.out, HTT.out]; rfl)
      clear hq hmo hzo
      go_wp2_with fail
      refine HG5.out.mono ?_
      rintro e w6 ⟨hg6, A6, n6, c6, b6, u6, rfl, hr6⟩
      have HRES := Lib.hid (retR_bad (u := u) (A := none) (n := 0) (c := 0) (grown_trans HK5.out.g hg6) hr6 HQB.out)
      clear hg6 hr6
      go_wp2_with fail
      refine bodyPost_ret (results_tmp2 rfl _ _ _) rfl ?_
      exact HRES.out
     | ok y j2 =>
      rw [hq] at HG5 hmo hzo
      have hj2 : j + 1 ≤ j2 := hmo
      have hzy : Cd.sizeI y.1 + (j + 1) ≤ j2 := hzo.1
      have HM2 := Lib.hid (HTM.out y.1 j2 (by rw [HP.out]; simp only; rw [hq]; rfl) hj2)
      clear hq hmo hzo
      obtain ⟨y, by'⟩ := y
      simp only at hzy HM2
      go_wp2_with fail
      refine HG5.out.mono ?_
      rintro e w6 ⟨hg6, A6, c6, rfl, hr6, hx6⟩
      have HB7 : Hid (Below w6.heap.size w6 (w6.alloc (.cells #[.slice A6 (Cd.nodI L y).length c6] 25))) := Lib.hid ((Below.refl _ _).alloc (Nat.le_refl _) _)
      have HPRE := Lib.hid (HK5.out.pre hg6 hx6 HB7.out)
      have HNEW : Hid ((w6.alloc (.cells #[.slice A6 (Cd.nodI L y).length c6] 25)).heap[w6.heap.size]? = some (.cells #[.slice A6 (Cd.nodI L y).length c6] 25 (0, 0))) := Lib.hid (heap_alloc_new _ _)
      have HFEW : Hid ((xs.map (Cd.nodI L)).length ≤ 2000000) := Lib.hid (by rw [List.length_map]; exact HK5.out.few hs)
      have HG6 := Lib.hid hg6
      have HR6 := Lib.hid hr6
      clear hg6 hr6 hx6
      go_wp2_with (at_builtin; (refine wpList_append_ns rfl (.tmp 37) (.tmp 39) rfl w.heap.size (.slice Ak xs.length ck) (xs.map (Cd.nodI L)) (Cd.nodI L y) rfl HPRE.out.1 w6.heap.size 1 A6 c6 rfl (by decide) HNEW.out HPRE.out.2.1 HFEW.out HPRE.out.2.2 ?_))
      intro v8 w8 hown8 hg8
      have HK8 := Lib.hid (HK5.out.more HG6.out HR6.out hzy HB7.out hown8 hg8)
      clear hown8 hg8
      obtain ⟨Av, cv, rfl⟩ := HK8.out.form
      go_wp2_with fail
      go_roundg (s.size - j2 + 1)
      case measure => have := HK8.out.r.le; simp at hjs; omega
      case rel =>
       obtain ⟨m, hm1, hm2⟩ := HM2.out
       exact ⟨xs ++ [y], j2, m, rfl, HK8.out, by rw [← hm2]; exact HL.out.tot, hm1, by have := HL.out.le; omega⟩
end Go.Proofs.YtenmkbpdkfhbjaaGreat
namespace Go.Proofs.YtenmkbpdkfhbjaaGreat
open Go Go.RowKit

set_option maxRecDepth 100000 in
set_option maxHeartbeats 16000000 in
theorem above3_any (R : Nat) (L : Sg.SList) (As : Option Addr) (cs : Nat) (s : ByteArray) (kind : Int) (ov : Nat → Cd.R (Cd.Item × Bool)) (k : Nat) (u : Int) (w : World) (h : R3Is R L As cs s kind k u w) (hs : s.size ≤ 1000000)
  (hov : ∀ (j : Nat) (u : Int) (W : World), k ≤ j → w.grownBy W (some R) → R3Is R L As cs s kind j u W → Calls Tryz.prog 122 #[.pointer (some ⟨R, 0, none⟩)] W (RetO R L As cs s kind u (ov j) W)) (hmono : ∀ j, j ≤ (ov j).pos) (hsz : ∀ j, Cd.SzO j (ov j)) :
  Calls Tryz.prog 110 #[.pointer (some ⟨R, 0, none⟩)] w (RetO R L As cs s kind u (Cd.manyG s.data.toList ov k) w) := by
 have HTK := Lib.hid (fun (j : Nat) (u : Int) (c : UInt8) (W : World) (hr : R3Is R L As cs s kind j u W) => takes3_any R L As cs s kind j u c W hr hs)
 have HSE := Lib.hid (fun (j : Nat) (u : Int) (c : UInt8) (W : World) (hr : R3Is R L As cs s kind j u W) => sees3_any R L As cs s kind j u c W hr)
 obtain ⟨p, hp⟩ : ∃ p : Nat → Cd.R Cd.Item, p = Cd.besideG s.data.toList ov := ⟨_, rfl⟩
 have HOV := Lib.hid (fun (j : Nat) (u : Int) (W : World) (hj : k ≤ j) (hg : w.grownBy W (some R)) (hr : R3Is R L As cs s kind j u W) => beside3_any R L As cs s kind ov j u W hr hs (fun i u' U hi hgu hru => hov i u' U (Nat.le_trans hj hi) (grown_trans hg hgu) hru) hmono hsz)
 rw [← hp] at HOV
 have HSZ : Hid (∀ j, Cd.Sz j (p j)) := Lib.hid fun j => by rw [hp]; exact Cd.sz_beside hsz j
 have HMO : Hid (∀ j, j ≤ (p j).pos) := Lib.hid fun j => by rw [hp]; exact Cd.beside_mono hmono j
 have HQ : Hid (Cd.manyG s.data.toList ov k = (p k).bind fun x k1 => if Cd.sees s.data.toList k1 58 = true then (Cd.cont [x] (Cd.restG s.data.toList p 58 (Cd.N s.data.toList) k1)).bind fun xs k2 => .ok (.mk (Cd.kindN 3) [] 0 xs, true) k2 else .ok (x, false) k1) := Lib.hid (by rw [hp]; rfl)
 clear hp hov hmono hsz
 have HRl := Lib.hid h.lt
 have HG := Lib.hid (HOV.out k u w (Nat.le_refl _) (grown_refl w _) h)
 unfold RetR at HG
 clear h
 go_enter Tryz.func110, Tryz.ntmps110
 go_wp2_with fail
 have hm0 := HMO.out k
 have hz0 := HSZ.out k
 cases hq : p k with
 | bad jb =>
  rw [hq] at HG HQ
  clear hq hm0 hz0
  refine HG.out.mono ?_
  rintro e w1 ⟨hg1, A, n, c, u1, rfl, hr1⟩
  have HRES := Lib.hid (retO_bad (u := u) (A := A) (n := n) (c := c) (b := false) hg1 hr1 HQ.out)
  clear hg1 hr1
  go_wp2_with fail
  refine bodyPost_ret (results_tmp3 rfl _ _ _) rfl ?_
  exact HRES.out
 | ok x k1 =>
  rw [hq] at HG HQ hm0 hz0
  have hk1 : k ≤ k1 := hm0
  have hx1 : Cd.sizeI x ≤ k1 := by have := hz0.1; omega
  clear hq hm0 hz0
  refine HG.out.mono ?_
  rintro e w1 ⟨hg1, A, c, rfl, hr1, hxr⟩
  have HS1 := Lib.hid (HSE.out k1 _ 58 w1 hr1)
  unfold RetB3 at HS1
  have HG1 := Lib.hid hg1
  have HR1 := Lib.hid hr1
  have HX1 := Lib.hid hxr
  clear hg1 hr1 hxr
  cases hsee : Cd.sees s.data.toList k1 58
  ·rw [hsee] at HS1
   have HQ2 : Hid (Cd.manyG s.data.toList ov k = .ok (x, false) k1) := Lib.hid (by rw [HQ.out]; simp only [Cd.R.bind]; rw [if_neg (by rw [hsee]; exact Bool.false_ne_true)])
   clear hsee
   go_wp2_with fail
   refine HS1.out.mono ?_
   rintro e w2 ⟨rfl, hb2⟩
   have HB2 := Lib.hid hb2
   clear hb2
   go_wp2_with fail
   refine bodyPost_ret (results_tmp3 rfl _ _ _) rfl ?_
   rw [HQ2.out]
   exact ⟨grown_below HG1.out HB2.out, A, c, rfl, HR1.out.below HB2.out, HX1.out.keep fun b hb => ⟨⟨hb.1, Nat.lt_of_lt_of_le hb.2 HB2.out.size⟩, HB2.out.block b hb.2⟩⟩
  ·rw [hsee] at HS1
   obtain ⟨T, hT⟩ : ∃ T, T = Cd.cont [x] (Cd.restG s.data.toList p 58 (Cd.N s.data.toList) k1) := ⟨_, rfl⟩
   have HQ2 : Hid (Cd.manyG s.data.toList ov k = T.bind fun xs k2 => .ok (.mk (Cd.kindN 3) [] 0 xs, true) k2) := Lib.hid (by rw [HQ.out, hT]; simp only [Cd.R.bind]; rw [if_pos hsee])
   have HT := Lib.hid hT
   clear hsee hT HQ
   go_wp2_with fail
   refine HS1.out.mono ?_
   rintro e w2 ⟨rfl, hb2⟩
   have HB2 := Lib.hid hb2
   have HX2 : Hid (RdX w2 (okF w w2) 8 encN (.slice A (Cd.nodI L x).length c) (Cd.nodI L x)) := Lib.hid (HX1.out.keep fun b hb => ⟨⟨hb.1, Nat.lt_of_lt_of_le hb.2 hb2.size⟩, hb2.block b hb.2⟩)
   obtain ⟨wl, hwl⟩ : ∃ wl, wl = w2.alloc (.cells #[.slice A (Cd.nodI L x).length c] 25) := ⟨_, rfl⟩
   have HK : Hid (Lp3 w R L As cs s kind u p 58 T k k1 (Cd.N s.data.toList) (.slice (some ⟨w2.heap.size, 0, none⟩) 1 1) [x] wl) := Lib.hid ⟨by rw [hwl]; exact K3.first (grown_below HG1.out hb2) (HR1.out.below hb2) HRl.out HX2.out hx1, HT.out.symm, by unfold Cd.N; omega, hk1⟩
   have HWL := Lib.hid hwl
   clear hb2 hwl
   go_upto_block 0 with fail
   rw [← HWL.out]
   clear HWL
   go_wp2_with fail
   go_loopg [5] (s.size - k1 + 1) (fun g v wr => ∃ xs j n, g = s.size - j + 1 ∧ Lp3 w R L As cs s kind u p 58 T k j n v xs wr)
   case atStart => exact ⟨[x], k1, _, rfl, HK.out⟩
   case round =>
    clear HK
    obtain ⟨xs, j, n, rfl, hl⟩ := hrel
    have HL := Lib.hid hl
    obtain ⟨Ak, ck, rfl⟩ := hl.st.form
    have HI := Lib.hid (HTK.out j _ 58 wr hl.st.r)
    unfold RetTk at HI
    clear hl
    cases hsee : Cd.sees s.data.toList j 58
    ·rw [hsee] at HI
     have HT2 : Hid (T = .ok xs j) := Lib.hid (by rw [← HL.out.tot]; exact Cd.rest_stop hsee)
     have HQT : Hid (Cd.manyG s.data.toList ov k = .ok (.mk (Cd.kindN 3) [] 0 xs, true) j) := Lib.hid (by rw [HQ2.out, HT2.out]; rfl)
     clear hsee
     go_wp2_with fail
     refine HI.out.mono ?_
     rintro e w5 ⟨rfl, hg5, hr5⟩
     rw [if_neg Bool.false_ne_true] at hr5
     have HK5 := Lib.hid (HL.out.st.call hg5 hr5 (Nat.le_refl _))
     have HW5 := Lib.hid (HK5.out.wrap (q := 3) (by decide) hs)
     clear hg5 hr5 HI
     go_wp2_with fail
     refine HW5.out.mono ?_
     rintro e w6 ⟨A6, c6, rfl, -, hr6⟩
     have HR6 := Lib.hid hr6
     clear hr6
     go_wp2_with fail
     refine bodyPost_ret (results_tmp3 rfl _ _ _) rfl ?_
     exact retO_ok HR6.out HQT.out
    ·rw [hsee] at HI
     have hjs := Cd.sees_lt' hsee
     have HTB := Lib.hid (fun (jb : Nat) (hp : p (j + 1) = .bad jb) => (HL.out.tot).symm.trans (Cd.rest_bad hsee HL.out.fuel hp))
     have HTM := Lib.hid (fun (y : Cd.Item) (j1 : Nat) (hp : p (j + 1) = .ok y j1) (hk : j + 1 ≤ j1) => Cd.rest_more (xs := xs) hsee HL.out.fuel hp hk)
     clear hsee
     go_wp2_with fail
     refine HI.out.mono ?_
     rintro e w5 ⟨rfl, hg5, hr5⟩
     rw [if_pos trivial] at hr5
     have HK5 := Lib.hid (HL.out.st.call hg5 hr5 (Nat.le_succ _))
     have HG5 := Lib.hid (HOV.out (j + 1) _ w5 (by have := HL.out.le; omega) HK5.out.g HK5.out.r)
     unfold RetR at HG5
     have hmo := HMO.out (j + 1)
     have hzo := HSZ.out (j + 1)
     clear hg5 hr5 HI
     cases hq : p (j + 1) with
     | bad jb =>
      rw [hq] at HG5
      have HTT := Lib.hid (HTB.out jb (by exact hq))
      have HQB : Hid (Cd.manyG s.data.toList ov k = .bad jb) := Lib.hid (by rw [HQ2.out, HTT.out]; rfl)
      clear hq hmo hzo
      go_wp2_with fail
      refine HG5.out.mono ?_
      rintro e w6 ⟨hg6, A6, n6, c6, u6, rfl, hr6⟩
      have HRES := Lib.hid (retO_bad (u := u) (A := none) (n := 0) (c := 0) (b := false) (grown_trans HK5.out.g hg6) hr6 HQB.out)
      clear hg6 hr6
      go_wp2_with fail
      refine bodyPost_ret (results_tmp3 rfl _ _ _) rfl ?_
      exact HRES.out
     | ok y j2 =>
      rw [hq] at HG5 hmo hzo
      have hj2 : j + 1 ≤ j2 := hmo
      have hzy : Cd.sizeI y + (j + 1) ≤ j2 := hzo.1
      have HM2 := Lib.hid (HTM.out y j2 (by exact hq) hj2)
      clear hq hmo hzo
      go_wp2_with fail
      refine HG5.out.mono ?_
      rintro e w6 ⟨hg6, A6, c6, rfl, hr6, hx6⟩
      have HB7 : Hid (Below w6.heap.size w6 (w6.alloc (.cells #[.slice A6 (Cd.nodI L y).length c6] 25))) := Lib.hid ((Below.refl _ _).alloc (Nat.le_refl _) _)
      have HPRE := Lib.hid (HK5.out.pre hg6 hx6 HB7.out)
      have HNEW : Hid ((w6.alloc (.cells #[.slice A6 (Cd.nodI L y).length c6] 25)).heap[w6.heap.size]? = some (.cells #[.slice A6 (Cd.nodI L y).length c6] 25 (0, 0))) := Lib.hid (heap_alloc_new _ _)
      have HFEW : Hid ((xs.map (Cd.nodI L)).length ≤ 2000000) := Lib.hid (by rw [List.length_map]; exact HK5.out.few hs)
      have HG6 := Lib.hid hg6
      have HR6 := Lib.hid hr6
      clear hg6 hr6 hx6
      go_wp2_with (at_builtin; (refine wpList_append_ns rfl (.tmp 33) (.tmp 35) rfl w.heap.size (.slice Ak xs.length ck) (xs.map (Cd.nodI L)) (Cd.nodI L y) rfl HPRE.out.1 w6.heap.size 1 A6 c6 rfl (by decide) HNEW.out HPRE.out.2.1 HFEW.out HPRE.out.2.2 ?_))
      intro v8 w8 hown8 hg8
      have HK8 := Lib.hid (HK5.out.more HG6.out HR6.out hzy HB7.out hown8 hg8)
      clear hown8 hg8
      obtain ⟨Av, cv, rfl⟩ := HK8.out.form
      go_wp2_with fail
      go_roundg (s.size - j2 + 1)
      case measure => have := HK8.out.r.le; simp at hjs; omega
      case rel =>
       obtain ⟨m, hm1, hm2⟩ := HM2.out
       exact ⟨xs ++ [y], j2, m, rfl, HK8.out, by rw [← hm2]; exact HL.out.tot, hm1, by have := HL.out.le; omega⟩
end Go.Proofs.YtenmkbpdkfhbjaaGreat
