/- The document's reader: a leaf, two of them, or a column in parentheses.; The document's reader: an honour, a part. -/
import Derived.Test.YtenmkbpdkfhbjaaGreatRcR3Above
namespace Go.Proofs.YtenmkbpdkfhbjaaGreat
open Go Go.RowKit

theorem K3.two {w W : World} {R : Nat} {L : Sg.SList} {As : Option Addr} {cs : Nat} {s : ByteArray} {kind u : Int} {j : Nat} {x y : Cd.Item} {A1 A2 : Option Addr} {c1 c2 : Nat} (hg : w.grownBy W (some R)) (hr : R3Is R L As cs s kind j (Cd.unkF L (Cd.unkF L u (Cd.codesI x)) (Cd.codesI y)) W) (hR : R < w.heap.size)
  (hx : RdX W (okF w W) 8 encN (.slice A1 (Cd.nodI L x).length c1) (Cd.nodI L x)) (hy : RdX W (okF w W) 8 encN (.slice A2 (Cd.nodI L y).length c2) (Cd.nodI L y)) (hs : Cd.sizeI x + Cd.sizeI y ≤ j) :
  K3 w R L As cs s kind u j (.slice (some ⟨W.heap.size, 0, none⟩) 2 2) [x, y] (W.alloc (.cells #[.slice A1 (Cd.nodI L x).length c1, .slice A2 (Cd.nodI L y).length c2] 25)) := by
 have hb : Below W.heap.size W (W.alloc (.cells #[.slice A1 (Cd.nodI L x).length c1, .slice A2 (Cd.nodI L y).length c2] 25)) := (Below.refl _ _).alloc (Nat.le_refl _) _
 have hk : ∀ b, okF w W b → (b < (W.alloc (.cells #[.slice A1 (Cd.nodI L x).length c1, .slice A2 (Cd.nodI L y).length c2] 25)).heap.size ∧ (Value.slice (some ⟨W.heap.size, 0, none⟩) 2 2).ownBlock ≠ some b ∧ w.heap.size ≤ b) ∧ (W.alloc (.cells #[.slice A1 (Cd.nodI L x).length c1, .slice A2 (Cd.nodI L y).length c2] 25)).heap[b]? = W.heap[b]? := fun b hb' =>
  ⟨⟨by have h2 : b < W.heap.size := hb'.2; simp; omega, by have h2 : b < W.heap.size := hb'.2; simp [Value.ownBlock]; omega, hb'.1⟩, hb.block b hb'.2⟩
 refine ⟨grown_below hg hb, ?_, ⟨[.slice A1 (Cd.nodI L x).length c1] ++ ([.slice A2 (Cd.nodI L y).length c2] ++ []), ⟨by simp [KNs], .inr ⟨W.heap.size, 2, #[.slice A1 (Cd.nodI L x).length c1, .slice A2 (Cd.nodI L y).length c2], rfl, hg.size, heap_alloc_new _ _, by simp, by decide, rfl, rfl⟩⟩, ?_⟩, hR, ?_⟩
 ·rw [show Cd.codesL [x, y] = Cd.codesI x ++ Cd.codesI y by rw [Cd.codesL, Cd.codesL, Cd.codesL, List.append_nil], Cd.unk_append]
  exact hr.below hb
 ·exact grows.cons (K := KNs) ⟨A1, c1, rfl, hx.keep hk⟩ (grows.cons (K := KNs) ⟨A2, c2, rfl, hy.keep hk⟩ grows.nil)
 ·rw [Cd.sizeL, Cd.sizeL, Cd.sizeL]
  omega
set_option maxRecDepth 100000 in
set_option maxHeartbeats 16000000 in
theorem over3_step (R : Nat) (L : Sg.SList) (As : Option Addr) (cs : Nat) (s : ByteArray) (kind : Int) (hkd : kind = 1) (f k : Nat) (u : Int) (w : World) (h : R3Is R L As cs s kind k u w) (hs : s.size ≤ 1000000) (hv : Sg.checkV L = 0) (hl : LR w R L As cs)
  (ih : ∀ (j : Nat) (u : Int) (W : World), k < j → w.grownBy W (some R) → R3Is R L As cs s kind j u W → Calls Tryz.prog 122 #[.pointer (some ⟨R, 0, none⟩)] W (RetO R L As cs s kind u (Cd.overG s.data.toList f j) W)) :
  Calls Tryz.prog 122 #[.pointer (some ⟨R, 0, none⟩)] w (RetO R L As cs s kind u (Cd.overG s.data.toList (f + 1) k) w) := by
 have HTK := Lib.hid (fun (j : Nat) (u : Int) (c : UInt8) (W : World) (hr : R3Is R L As cs s kind j u W) => takes3_any R L As cs s kind j u c W hr hs)
 have HAB : Hid (∀ (u : Int) (W : World), w.grownBy W (some R) → R3Is R L As cs s kind (k + 1) u W → Calls Tryz.prog 110 #[.pointer (some ⟨R, 0, none⟩)] W (RetO R L As cs s kind u (Cd.manyG s.data.toList (Cd.overG s.data.toList f) (k + 1)) W)) := Lib.hid fun u W hg hr =>
  above3_any R L As cs s kind _ (k + 1) u W hr hs (fun j u' W' hj hg' hr' => ih j u' W' hj (grown_trans hg hg') hr') (Cd.over_mono f) (Cd.sz_over f)
 have HLF : Hid (∀ (j : Nat) (u : Int) (W : World), w.grownBy W (some R) → R3Is R L As cs s kind j u W → Calls Tryz.prog 91 #[.pointer (some ⟨R, 0, none⟩)] W (RetR R L As cs s kind u (Cd.leafG s.data.toList j) W)) := Lib.hid fun j u W hg hr => by
  have := leaf3_any R L As cs s kind (.inl hkd) j u W hr hs hv (hl.go hg)
  rwa [Cd.leaf_line hkd] at this
 have HRl := Lib.hid h.lt
 have HT0 := Lib.hid (HTK.out k u 40 w h)
 unfold RetTk at HT0
 have HQ : Hid (Cd.overG s.data.toList (f + 1) k = if Cd.sees s.data.toList k 40 = true then (Cd.aboveG s.data.toList (Cd.overG s.data.toList f) true (k + 1)).bind fun x k1 => (Cd.must s.data.toList k1 41).bind fun _ k2 => .ok (x, true) k2
  else (Cd.leafG s.data.toList k).bind fun x k1 => if Cd.sees s.data.toList k1 38 = true then (Cd.leafG s.data.toList (k1 + 1)).bind fun y k2 => .ok (.mk (Cd.kindN 4) [] 0 [x, y], false) k2 else .ok (x, false) k1) := Lib.hid (by rw [Cd.overG])
 clear h ih hl
 cases hsee : Cd.sees s.data.toList k 40
 ·rw [hsee] at HT0
  have HQ2 : Hid (Cd.overG s.data.toList (f + 1) k = (Cd.leafG s.data.toList k).bind fun x k1 => if Cd.sees s.data.toList k1 38 = true then (Cd.leafG s.data.toList (k1 + 1)).bind fun y k2 => .ok (.mk (Cd.kindN 4) [] 0 [x, y], false) k2 else .ok (x, false) k1) := Lib.hid (by rw [HQ.out, if_neg (by rw [hsee]; exact Bool.false_ne_true)])
  clear hsee
  go_enter Tryz.func122, Tryz.ntmps122
  go_wp2_with fail
  refine HT0.out.mono ?_
  rintro e w1 ⟨rfl, hg1, hr1⟩
  rw [if_neg Bool.false_ne_true] at hr1
  have HG := Lib.hid (HLF.out k u w1 hg1 hr1)
  have HG1 := Lib.hid hg1
  unfold RetR at HG
  clear hg1 hr1 HT0
  have hz0 := Cd.sz_leaf (s := s.data.toList) k
  cases hq : Cd.leafG s.data.toList k with
  | bad jb =>
   rw [hq] at HG HQ2
   clear hq hz0
   go_wp2_with fail
   refine HG.out.mono ?_
   rintro e w2 ⟨hg2, A, n, c, u1, rfl, hr2⟩
   have HRES := Lib.hid (retO_bad (u := u) (A := A) (n := n) (c := c) (b := false) (grown_trans HG1.out hg2) hr2 HQ2.out)
   clear hg2 hr2
   go_wp2_with fail
   refine bodyPost_ret (results_tmp3 rfl _ _ _) rfl ?_
   exact HRES.out
  | ok x k1 =>
   rw [hq] at HG HQ2 hz0
   have hx1 : Cd.sizeI x + k ≤ k1 := hz0.1
   clear hq hz0
   go_wp2_with fail
   refine HG.out.mono ?_
   rintro e w2 ⟨hg2, A, c, rfl, hr2, hx2⟩
   have HT2 := Lib.hid (HTK.out k1 _ 38 w2 hr2)
   unfold RetTk at HT2
   have HG2 := Lib.hid (grown_trans HG1.out hg2)
   have HX2 : Hid (RdX w2 (okF w w2) 8 encN (.slice A (Cd.nodI L x).length c) (Cd.nodI L x)) := Lib.hid (hx2.keep fun b hb => ⟨⟨Nat.le_trans HG1.out.size hb.1, hb.2⟩, rfl⟩)
   clear hg2 hr2 hx2
   cases hse : Cd.sees s.data.toList k1 38
   ·rw [hse] at HT2
    have HQ3 : Hid (Cd.overG s.data.toList (f + 1) k = .ok (x, false) k1) := Lib.hid (by rw [HQ2.out]; simp only [Cd.R.bind]; rw [if_neg (by rw [hse]; exact Bool.false_ne_true)])
    clear hse
    go_wp2_with fail
    refine HT2.out.mono ?_
    rintro e w3 ⟨rfl, hg3, hr3⟩
    rw [if_neg Bool.false_ne_true] at hr3
    have HX3 : Hid (RdX w3 (okF w w3) 8 encN (.slice A (Cd.nodI L x).length c) (Cd.nodI L x)) := Lib.hid (HX2.out.keep fun b hb => ⟨⟨hb.1, Nat.lt_of_lt_of_le hb.2 hg3.size⟩, hg3.block b hb.2 fun e => by cases e; have := hb.1; have := HRl.out; omega⟩)
    have HRES : Hid (RetO R L As cs s kind u (Cd.overG s.data.toList (f + 1) k) w (.returned (.tuple #[.slice A (Cd.nodI L x).length c, .bool false, .bool true])) w3) := Lib.hid (by
     rw [HQ3.out]
     exact ⟨grown_trans HG2.out hg3, A, c, rfl, hr3, HX3.out⟩)
    clear hg3 hr3
    go_wp2_with fail
    refine bodyPost_ret (results_tmp3 rfl _ _ _) rfl ?_
    exact HRES.out
   ·rw [hse] at HT2
    have HQ3 : Hid (Cd.overG s.data.toList (f + 1) k = (Cd.leafG s.data.toList (k1 + 1)).bind fun y k2 => .ok (.mk (Cd.kindN 4) [] 0 [x, y], false) k2) := Lib.hid (by rw [HQ2.out]; simp only [Cd.R.bind]; rw [if_pos hse])
    clear hse
    go_wp2_with fail
    refine HT2.out.mono ?_
    rintro e w3 ⟨rfl, hg3, hr3⟩
    rw [if_pos trivial] at hr3
    have HX3 : Hid (RdX w3 (okF w w3) 8 encN (.slice A (Cd.nodI L x).length c) (Cd.nodI L x)) := Lib.hid (HX2.out.keep fun b hb => ⟨⟨hb.1, Nat.lt_of_lt_of_le hb.2 hg3.size⟩, hg3.block b hb.2 fun e => by cases e; have := hb.1; have := HRl.out; omega⟩)
    have HG3 := Lib.hid (grown_trans HG2.out hg3)
    have HL3 := Lib.hid (HLF.out (k1 + 1) _ w3 HG3.out hr3)
    unfold RetR at HL3
    clear hg3 hr3 HT2
    have hz0 := Cd.sz_leaf (s := s.data.toList) (k1 + 1)
    cases hq : Cd.leafG s.data.toList (k1 + 1) with
    | bad jb =>
     rw [hq] at HL3 HQ3
     clear hq hz0
     go_wp2_with fail
     refine HL3.out.mono ?_
     rintro e w4 ⟨hg4, A4, n4, c4, u4, rfl, hr4⟩
     have HRES := Lib.hid (retO_bad (u := u) (A := none) (n := 0) (c := 0) (b := false) (grown_trans HG3.out hg4) hr4 HQ3.out)
     clear hg4 hr4
     go_wp2_with fail
     refine bodyPost_ret (results_tmp3 rfl _ _ _) rfl ?_
     exact HRES.out
    | ok y k2 =>
     rw [hq] at HL3 HQ3 hz0
     have hy1 : Cd.sizeI y + (k1 + 1) ≤ k2 := hz0.1
     clear hq hz0
     go_wp2_with fail
     refine HL3.out.mono ?_
     rintro e w4 ⟨hg4, A4, c4, rfl, hr4, hx4⟩
     have HX4 : Hid (RdX w4 (okF w w4) 8 encN (.slice A (Cd.nodI L x).length c) (Cd.nodI L x)) := Lib.hid (HX3.out.keep fun b hb => ⟨⟨hb.1, Nat.lt_of_lt_of_le hb.2 hg4.size⟩, hg4.block b hb.2 fun e => by cases e; have := hb.1; have := HRl.out; omega⟩)
     have HY4 : Hid (RdX w4 (okF w w4) 8 encN (.slice A4 (Cd.nodI L y).length c4) (Cd.nodI L y)) := Lib.hid (hx4.keep fun b hb => ⟨⟨Nat.le_trans HG3.out.size hb.1, hb.2⟩, rfl⟩)
     have HK4 := Lib.hid (K3.two (u := u) (grown_trans HG3.out hg4) hr4 HRl.out HX4.out HY4.out (by omega))
     have HW4 := Lib.hid (K3.wrap (q := 4) (A := some ⟨w4.heap.size, 0, none⟩) (c := 2) (xs := [x, y]) HK4.out (by decide) hs)
     simp only [List.length_cons, List.length_nil, Nat.zero_add, Nat.reduceAdd] at HW4
     clear hg4 hr4 hx4
     go_wp2_with fail
     refine HW4.out.mono ?_
     rintro e w6 ⟨A6, c6, rfl, -, hr6⟩
     have HRES := Lib.hid (retO_ok hr6 HQ3.out)
     clear hr6
     go_wp2_with fail
     refine bodyPost_ret (results_tmp3 rfl _ _ _) rfl ?_
     exact HRES.out
 ·rw [hsee] at HT0
  have HQ2 : Hid (Cd.overG s.data.toList (f + 1) k = ((Cd.manyG s.data.toList (Cd.overG s.data.toList f) (k + 1)).bind fun y k1 => if y.2 = true then .ok y.1 k1 else .bad k1).bind fun x k1 => (Cd.must s.data.toList k1 41).bind fun _ k2 => .ok (x, true) k2) := Lib.hid (by rw [HQ.out, if_pos hsee, Cd.many_within])
  clear hsee
  go_enter Tryz.func122, Tryz.ntmps122
  go_wp2_with fail
  refine HT0.out.mono ?_
  rintro e w1 ⟨rfl, hg1, hr1⟩
  rw [if_pos trivial] at hr1
  have HG := Lib.hid (HAB.out u w1 hg1 hr1)
  have HG1 := Lib.hid hg1
  unfold RetO at HG
  clear hg1 hr1 HT0
  cases hq : Cd.manyG s.data.toList (Cd.overG s.data.toList f) (k + 1) with
  | bad jb =>
   rw [hq] at HG HQ2
   clear hq
   go_wp2_with fail
   refine HG.out.mono ?_
   rintro e w2 ⟨hg2, A, n, c, b, u1, rfl, hr2⟩
   have HRES := Lib.hid (retO_bad (u := u) (A := none) (n := 0) (c := 0) (b := true) (grown_trans HG1.out hg2) hr2 HQ2.out)
   clear hg2 hr2
   go_wp2_with fail
   refine bodyPost_ret (results_tmp3 rfl _ _ _) rfl ?_
   exact HRES.out
  | ok x k1 =>
   rw [hq] at HG HQ2
   obtain ⟨x, b⟩ := x
   clear hq
   go_wp2_with fail
   refine HG.out.mono ?_
   rintro e w2 ⟨hg2, A, c, rfl, hr2, hx2⟩
   have HG2 := Lib.hid (grown_trans HG1.out hg2)
   have HX2 : Hid (RdX w2 (okF w w2) 8 encN (.slice A (Cd.nodI L x).length c) (Cd.nodI L x)) := Lib.hid (hx2.keep fun b hb => ⟨⟨Nat.le_trans HG1.out.size hb.1, hb.2⟩, rfl⟩)
   have HR2 := Lib.hid hr2
   have HT2 := Lib.hid (HTK.out k1 _ 41 w2 hr2)
   unfold RetTk at HT2
   clear hg2 hr2 hx2
   cases b
   ·have HQ3 : Hid (Cd.overG s.data.toList (f + 1) k = .bad k1) := Lib.hid (by rw [HQ2.out]; rfl)
    have HRES := Lib.hid (retO_bad (u := u) (A := none) (n := 0) (c := 0) (b := true) HG2.out HR2.out HQ3.out)
    go_wp2_with fail
    refine bodyPost_ret (results_tmp3 rfl _ _ _) rfl ?_
    exact HRES.out
   ·have HQ3 : Hid (Cd.overG s.data.toList (f + 1) k = (Cd.must s.data.toList k1 41).bind fun _ k2 => .ok (x, true) k2) := Lib.hid (by rw [HQ2.out]; rfl)
    cases hse : Cd.sees s.data.toList k1 41
    ·rw [hse] at HT2
     have HQ4 : Hid (Cd.overG s.data.toList (f + 1) k = .bad k1) := Lib.hid (by rw [HQ3.out]; unfold Cd.must; rw [if_neg (by rw [hse]; exact Bool.false_ne_true)]; rfl)
     clear hse
     go_wp2_with fail
     refine HT2.out.mono ?_
     rintro e w3 ⟨rfl, hg3, hr3⟩
     rw [if_neg Bool.false_ne_true] at hr3
     have HRES := Lib.hid (retO_bad (u := u) (A := none) (n := 0) (c := 0) (b := true) (grown_trans HG2.out hg3) hr3 HQ4.out)
     clear hg3 hr3
     go_wp2_with fail
     refine bodyPost_ret (results_tmp3 rfl _ _ _) rfl ?_
     exact HRES.out
    ·rw [hse] at HT2
     have HQ4 : Hid (Cd.overG s.data.toList (f + 1) k = .ok (x, true) (k1 + 1)) := Lib.hid (by rw [HQ3.out]; unfold Cd.must; rw [if_pos hse]; rfl)
     clear hse
     go_wp2_with fail
     refine HT2.out.mono ?_
     rintro e w3 ⟨rfl, hg3, hr3⟩
     rw [if_pos trivial] at hr3
     have HX3 : Hid (RdX w3 (okF w w3) 8 encN (.slice A (Cd.nodI L x).length c) (Cd.nodI L x)) := Lib.hid (HX2.out.keep fun b hb => ⟨⟨hb.1, Nat.lt_of_lt_of_le hb.2 hg3.size⟩, hg3.block b hb.2 fun e => by cases e; have := hb.1; have := HRl.out; omega⟩)
     have HRES : Hid (RetO R L As cs s kind u (Cd.overG s.data.toList (f + 1) k) w (.returned (.tuple #[.slice A (Cd.nodI L x).length c, .bool true, .bool true])) w3) := Lib.hid (by
      rw [HQ4.out]
      exact ⟨grown_trans HG2.out hg3, A, c, rfl, hr3, HX3.out⟩)
     clear hg3 hr3
     go_wp2_with fail
     refine bodyPost_ret (results_tmp3 rfl _ _ _) rfl ?_
     exact HRES.out
theorem over3_any (R : Nat) (L : Sg.SList) (As : Option Addr) (cs : Nat) (s : ByteArray) (kind : Int) (hkd : kind = 1) (hs : s.size ≤ 1000000) (hv : Sg.checkV L = 0) : ∀ (f k : Nat) (u : Int) (w : World), s.size + 1 - k ≤ f → R3Is R L As cs s kind k u w → LR w R L As cs → Calls Tryz.prog 122 #[.pointer (some ⟨R, 0, none⟩)] w (RetO R L As cs s kind u (Cd.overG s.data.toList f k) w)
 | 0, k, u, w, hf, h, _ => absurd h.le (by omega)
 | f + 1, k, u, w, hf, h, hl => over3_step R L As cs s kind hkd f k u w h hs hv hl fun j u' W hj hg hr => over3_any R L As cs s kind hkd hs hv f j u' W (by omega) hr (hl.go hg)
theorem above3_all (R : Nat) (L : Sg.SList) (As : Option Addr) (cs : Nat) (s : ByteArray) (kind : Int) (hkd : kind = 1) (hs : s.size ≤ 1000000) (hv : Sg.checkV L = 0) (k : Nat) (u : Int) (w : World) (h : R3Is R L As cs s kind k u w) (hl : LR w R L As cs) :
  Calls Tryz.prog 110 #[.pointer (some ⟨R, 0, none⟩)] w (RetO R L As cs s kind u (Cd.manyG s.data.toList (Cd.overG s.data.toList (Cd.N s.data.toList)) k) w) :=
 above3_any R L As cs s kind _ k u w h hs (fun j u' W _ hg hr => over3_any R L As cs s kind hkd hs hv _ j u' W (by unfold Cd.N; simp) hr (hl.go hg)) (Cd.over_mono _) (Cd.sz_over _)
end Go.Proofs.YtenmkbpdkfhbjaaGreat
namespace Go.Proofs.YtenmkbpdkfhbjaaGreat
open Go Go.RowKit

structure Lq3 (w : World) (R : Nat) (L : Sg.SList) (As : Option Addr) (cs : Nat) (s : ByteArray) (kind u : Int) (p : Nat → Cd.R Cd.Item) (c : UInt8) (T : Cd.R (List Cd.Item)) (k j n : Nat) (kv : Value) (xs : List Cd.Item) (W : World) : Prop where
 st : K3 w R L As cs s kind u j kv xs W
 tot : Cd.cont xs (Cd.sepG s.data.toList p c n j) = T
 fuel : s.data.toList.length - j < n
 le : k ≤ j
theorem sees_other {s : List UInt8} {k : Nat} {c d : UInt8} (h : Cd.sees s k c = true) (hd : d ≠ c) : Cd.sees s k d = false := by
 unfold Cd.sees at h ⊢
 have h' : s[k]? = some c := by simpa using h
 rw [h']
 simp
 exact fun e => hd e.symm
set_option maxRecDepth 100000 in
set_option maxHeartbeats 16000000 in
theorem honour3_any (R : Nat) (L : Sg.SList) (As : Option Addr) (cs : Nat) (s : ByteArray) (kind : Int) (hkd : kind = 1) (k : Nat) (u : Int) (w : World) (h : R3Is R L As cs s kind k u w) (hs : s.size ≤ 1000000) (hv : Sg.checkV L = 0) (hl : LR w R L As cs) (hsee : Cd.sees s.data.toList k 91 = true) :
  Calls Tryz.prog 109 #[.pointer (some ⟨R, 0, none⟩)] w (RetR R L As cs s kind u (Cd.partG s.data.toList k) w) := by
 have HTK := Lib.hid (fun (j : Nat) (u : Int) (c : UInt8) (W : World) (hr : R3Is R L As cs s kind j u W) => takes3_any R L As cs s kind j u c W hr hs)
 obtain ⟨mg, hmg⟩ : ∃ mg, mg = Cd.manyG s.data.toList (Cd.overG s.data.toList (Cd.N s.data.toList)) := ⟨_, rfl⟩
 obtain ⟨p, hp⟩ : ∃ p, p = Cd.aboveG s.data.toList (Cd.overG s.data.toList (Cd.N s.data.toList)) false := ⟨_, rfl⟩
 have HP : Hid (∀ j, p j = (mg j).bind fun y k1 => .ok y.1 k1) := Lib.hid fun j => by rw [hp, hmg]; exact Cd.many_above _ j
 have HOV : Hid (∀ (j : Nat) (u : Int) (W : World), w.grownBy W (some R) → R3Is R L As cs s kind j u W → Calls Tryz.prog 110 #[.pointer (some ⟨R, 0, none⟩)] W (RetO R L As cs s kind u (mg j) W)) := Lib.hid fun j u' W hg hr => by
  rw [hmg]
  exact above3_all R L As cs s kind hkd hs hv j u' W hr (hl.go hg)
 have HMO : Hid (∀ j, j ≤ (p j).pos) := Lib.hid fun j => by rw [hp]; exact Cd.above_mono (Cd.over_mono _) false j
 have HSZ : Hid (∀ j, Cd.Sz j (p j)) := Lib.hid fun j => by rw [hp]; exact Cd.sz_above (Cd.sz_over _) false j
 have HQ : Hid (Cd.partG s.data.toList k = (Cd.sepG s.data.toList p 59 (Cd.N s.data.toList) (k + 1)).bind fun xs k1 => (Cd.must s.data.toList k1 93).bind fun _ k2 => .ok (.mk (Cd.kindN 7) [] 0 xs) k2) := Lib.hid (by unfold Cd.partG; rw [if_pos hsee, hp])
 have HRl := Lib.hid h.lt
 have HT0 := Lib.hid (HTK.out k u 91 w h)
 unfold RetTk at HT0
 rw [hsee] at HT0
 have hkl : k < s.size := by have := Cd.sees_lt' hsee; simpa using this
 clear h hl hmg hp hsee
 go_enter Tryz.func109, Tryz.ntmps109
 go_wp2_with fail
 refine HT0.out.mono ?_
 rintro e w1 ⟨rfl, hg1, hr1⟩
 rw [if_pos trivial] at hr1
 obtain ⟨T, hT⟩ : ∃ T, T = Cd.sepG s.data.toList p 59 (Cd.N s.data.toList) (k + 1) := ⟨_, rfl⟩
 rw [← hT] at HQ
 have HK : Hid (Lq3 w R L As cs s kind u p 59 T (k + 1) (k + 1) (Cd.N s.data.toList) (.slice none 0 0) [] w1) := Lib.hid ⟨K3.zero hg1 hr1 HRl.out, by rw [hT]; cases Cd.sepG s.data.toList p 59 (Cd.N s.data.toList) (k + 1) <;> rfl, by unfold Cd.N; omega, Nat.le_refl _⟩
 clear hg1 hr1 HT0 hT
 go_wp2_with fail
 go_loopg [4] (s.size + 1 - k) (fun g v wr => ∃ xs j n, g = s.size + 1 - j + 1 ∧ j ≤ s.size ∧ Lq3 w R L As cs s kind u p 59 T (k + 1) j n v xs wr)
 case atStart => exact ⟨[], k + 1, _, by omega, by omega, HK.out⟩
 case round =>
  clear HK
  obtain ⟨xs, j, n, rfl, hjs, hl⟩ := hrel
  have HL := Lib.hid hl
  obtain ⟨Ak, ck, rfl⟩ := hl.st.form
  have HG := Lib.hid (HOV.out j _ wr hl.st.g hl.st.r)
  unfold RetO at HG
  have hn0 : 0 < n := by have := hl.fuel; omega
  have hmo := HMO.out j
  have hzo := HSZ.out j
  have HTB := Lib.hid (fun (jb : Nat) (hp : p j = .bad jb) => (HL.out.tot).symm.trans (Cd.sepl_bad (xs := xs) hn0 hp))
  have HTS := Lib.hid (fun (y : Cd.Item) (j1 : Nat) (hp : p j = .ok y j1) (hq : Cd.sees s.data.toList j1 59 = false) => (HL.out.tot).symm.trans (Cd.sepl_stop (xs := xs) hn0 hp hq))
  have HTM := Lib.hid (fun (y : Cd.Item) (j1 : Nat) (hp : p j = .ok y j1) (hk : j ≤ j1) (hq : Cd.sees s.data.toList j1 59 = true) => Cd.sepl_more (xs := xs) HL.out.fuel hp hk hq)
  clear hl hn0
  cases hq : mg j with
  | bad jb =>
   rw [hq] at HG
   have HTT := Lib.hid (HTB.out jb (by rw [HP.out, hq]; rfl))
   have HQB : Hid (Cd.partG s.data.toList k = .bad jb) := Lib.hid (by rw [HQ.out, HTT.out]; rfl)
   clear hq hmo hzo
   go_wp2_with fail
   refine HG.out.mono ?_
   rintro e w6 ⟨hg6, A6, n6, c6, b6, u6, rfl, hr6⟩
   have HRES := Lib.hid (retR_bad (u := u) (A := none) (n := 0) (c := 0) (grown_trans HL.out.st.g hg6) hr6 HQB.out)
   clear hg6 hr6
   go_wp2_with fail
   refine bodyPost_ret (results_tmp2 rfl _ _ _) rfl ?_
   exact HRES.out
  | ok y j2 =>
   rw [hq] at HG
   have hpy : p j = .ok y.1 j2 := by rw [HP.out, hq]; rfl
   rw [hpy] at hmo hzo
   have hj2 : j ≤ j2 := hmo
   have hzy : Cd.sizeI y.1 + j ≤ j2 := hzo.1
   have HPY := Lib.hid hpy
   clear hq hmo hzo hpy
   obtain ⟨y, by'⟩ := y
   simp only at hzy HPY
   go_wp2_with fail
   refine HG.out.mono ?_
   rintro e w6 ⟨hg6, A6, c6, rfl, hr6, hx6⟩
   have HB7 : Hid (Below w6.heap.size w6 (w6.alloc (.cells #[.slice A6 (Cd.nodI L y).length c6] 25))) := Lib.hid ((Below.refl _ _).alloc (Nat.le_refl _) _)
   have HPRE := Lib.hid (HL.out.st.pre hg6 hx6 HB7.out)
   have HNEW : Hid ((w6.alloc (.cells #[.slice A6 (Cd.nodI L y).length c6] 25)).heap[w6.heap.size]? = some (.cells #[.slice A6 (Cd.nodI L y).length c6] 25 (0, 0))) := Lib.hid (heap_alloc_new _ _)
   have HFEW : Hid ((xs.map (Cd.nodI L)).length ≤ 2000000) := Lib.hid (by rw [List.length_map]; exact HL.out.st.few hs)
   have HG6 := Lib.hid hg6
   have HR6 := Lib.hid hr6
   clear hg6 hr6 hx6
   go_wp2_with (at_builtin; (refine wpList_append_ns rfl (.tmp 18) (.tmp 20) rfl w.heap.size (.slice Ak xs.length ck) (xs.map (Cd.nodI L)) (Cd.nodI L y) rfl HPRE.out.1 w6.heap.size 1 A6 c6 rfl (by decide) HNEW.out HPRE.out.2.1 HFEW.out HPRE.out.2.2 ?_))
   intro v8 w8 hown8 hg8
   have HK8 := Lib.hid (HL.out.st.more HG6.out HR6.out hzy HB7.out hown8 hg8)
   obtain ⟨ys, hys⟩ : ∃ ys, ys = xs ++ [y] := ⟨_, rfl⟩
   rw [← hys] at HK8
   have HYS := Lib.hid hys
   clear hown8 hg8 hys
   obtain ⟨Av, cv, rfl⟩ := HK8.out.form
   have HT8 := Lib.hid (HTK.out j2 _ 93 w8 HK8.out.r)
   unfold RetTk at HT8
   cases hse : Cd.sees s.data.toList j2 93
   ·rw [hse] at HT8
    have HSE := Lib.hid hse
    clear hse
    go_wp2_with fail
    refine HT8.out.mono ?_
    rintro e w9 ⟨rfl, hg9, hr9⟩
    rw [if_neg Bool.false_ne_true] at hr9
    have HK9 := Lib.hid (HK8.out.call hg9 hr9 (Nat.le_refl _))
    have HT9 := Lib.hid (HTK.out j2 _ 59 w9 hr9)
    unfold RetTk at HT9
    clear hg9 hr9 HT8
    cases hse2 : Cd.sees s.data.toList j2 59
    ·rw [hse2] at HT9
     have HTT : Hid (T = .ok ys j2) := Lib.hid (by rw [HYS.out]; exact HTS.out y j2 HPY.out hse2)
     have HQB : Hid (Cd.partG s.data.toList k = .bad j2) := Lib.hid (by rw [HQ.out, HTT.out]; simp only [Cd.R.bind]; unfold Cd.must; rw [if_neg (by rw [HSE.out]; exact Bool.false_ne_true)])
     clear hse2
     go_wp2_with fail
     refine HT9.out.mono ?_
     rintro e w10 ⟨rfl, hg10, hr10⟩
     rw [if_neg Bool.false_ne_true] at hr10
     have HRES := Lib.hid (retR_bad (u := u) (A := none) (n := 0) (c := 0) (grown_trans HK9.out.g hg10) hr10 HQB.out)
     clear hg10 hr10
     go_wp2_with fail
     refine bodyPost_ret (results_tmp2 rfl _ _ _) rfl ?_
     exact HRES.out
    ·rw [hse2] at HT9
     have HM2 := Lib.hid (HTM.out y j2 HPY.out hj2 hse2)
     have hjl : j2 < s.size := by have := Cd.sees_lt' hse2; simpa using this
     clear hse2
     go_wp2_with fail
     refine HT9.out.mono ?_
     rintro e w10 ⟨rfl, hg10, hr10⟩
     rw [if_pos trivial] at hr10
     have HK10 := Lib.hid (HK9.out.call hg10 hr10 (Nat.le_succ _))
     clear hg10 hr10
     go_wp2_with fail
     go_roundg (s.size + 1 - (j2 + 1) + 1)
     case measure => omega
     case rel =>
      obtain ⟨m, hm1, hm2⟩ := HM2.out
      exact ⟨ys, j2 + 1, m, rfl, by omega, HK10.out, by rw [HYS.out, ← hm2]; exact HL.out.tot, hm1, by have := HL.out.le; omega⟩
   ·rw [hse] at HT8
    have HTT : Hid (T = .ok ys j2) := Lib.hid (by rw [HYS.out]; exact HTS.out y j2 HPY.out (sees_other hse (by decide)))
    have HQT : Hid (Cd.partG s.data.toList k = .ok (.mk (Cd.kindN 7) [] 0 ys) (j2 + 1)) := Lib.hid (by rw [HQ.out, HTT.out]; simp only [Cd.R.bind]; unfold Cd.must; rw [if_pos hse])
    clear hse
    go_wp2_with fail
    refine HT8.out.mono ?_
    rintro e w9 ⟨rfl, hg9, hr9⟩
    rw [if_pos trivial] at hr9
    have HK9 := Lib.hid (HK8.out.call hg9 hr9 (Nat.le_succ _))
    have HW9 := Lib.hid (K3.wrap (q := 7) HK9.out (by decide) hs)
    clear hg9 hr9 HT8
    go_wp2_with fail
    refine HW9.out.mono ?_
    rintro e w10 ⟨A10, c10, rfl, -, hr10⟩
    have HRES := Lib.hid hr10
    clear hr10
    go_wp2_with fail
    refine bodyPost_ret (results_tmp2 rfl _ _ _) rfl ?_
    rw [HQT.out]
    exact HRES.out
set_option maxRecDepth 100000 in
set_option maxHeartbeats 16000000 in
theorem part3_any (R : Nat) (L : Sg.SList) (As : Option Addr) (cs : Nat) (s : ByteArray) (kind : Int) (hkd : kind = 1) (k : Nat) (u : Int) (w : World) (h : R3Is R L As cs s kind k u w) (hs : s.size ≤ 1000000) (hv : Sg.checkV L = 0) (hl : LR w R L As cs) :
  Calls Tryz.prog 89 #[.pointer (some ⟨R, 0, none⟩)] w (RetR R L As cs s kind u (Cd.partG s.data.toList k) w) := by
 have HS0 := Lib.hid (sees3_any R L As cs s kind k u 91 w h)
 unfold RetB3 at HS0
 have HR0 := Lib.hid h
 have HL := Lib.hid hl
 clear h hl
 cases hsee : Cd.sees s.data.toList k 91
 ·rw [hsee] at HS0
  have HQ : Hid (Cd.partG s.data.toList k = (Cd.manyG s.data.toList (Cd.overG s.data.toList (Cd.N s.data.toList)) k).bind fun y k1 => .ok y.1 k1) := Lib.hid (by unfold Cd.partG; rw [if_neg (by rw [hsee]; exact Bool.false_ne_true), Cd.many_above])
  clear hsee
  go_enter Tryz.func89, Tryz.ntmps89
  go_wp2_with fail
  refine HS0.out.mono ?_
  rintro e w1 ⟨rfl, hb1⟩
  have HG := Lib.hid (above3_all R L As cs s kind hkd hs hv k u w1 (HR0.out.below hb1) (HL.out.go (grown_of_below hb1)))
  have HG1 : Hid (w.grownBy w1 (some R)) := Lib.hid (grown_of_below hb1)
  unfold RetO at HG
  clear hb1
  cases hq : Cd.manyG s.data.toList (Cd.overG s.data.toList (Cd.N s.data.toList)) k with
  | bad jb =>
   rw [hq] at HG HQ
   clear hq
   go_wp2_with fail
   refine HG.out.mono ?_
   rintro e w2 ⟨hg2, A, n, c, b, u1, rfl, hr2⟩
   have HRES := Lib.hid (retR_bad (u := u) (A := A) (n := n) (c := c) (grown_trans HG1.out hg2) hr2 HQ.out)
   clear hg2 hr2
   go_wp2_with fail
   refine bodyPost_ret (results_tmp2 rfl _ _ _) rfl ?_
   exact HRES.out
  | ok x k1 =>
   rw [hq] at HG HQ
   obtain ⟨x, bx⟩ := x
   clear hq
   go_wp2_with fail
   refine HG.out.mono ?_
   rintro e w2 ⟨hg2, A, c, rfl, hr2, hx2⟩
   have HRES : Hid (RetR R L As cs s kind u (Cd.partG s.data.toList k) w (.returned (.tuple #[.slice A (Cd.nodI L x).length c, .bool true])) w2) := Lib.hid (by
    rw [HQ.out]
    exact ⟨grown_trans HG1.out hg2, A, c, rfl, hr2, hx2.keep fun b hb => ⟨⟨Nat.le_trans HG1.out.size hb.1, hb.2⟩, rfl⟩⟩)
   clear hg2 hr2 hx2
   go_wp2_with fail
   refine bodyPost_ret (results_tmp2 rfl _ _ _) rfl ?_
   exact HRES.out
 ·rw [hsee] at HS0
  have HSEE := Lib.hid hsee
  clear hsee
  go_enter Tryz.func89, Tryz.ntmps89
  go_wp2_with fail
  refine HS0.out.mono ?_
  rintro e w1 ⟨rfl, hb1⟩
  have HG := Lib.hid (honour3_any R L As cs s kind hkd k u w1 (HR0.out.below hb1) hs hv (HL.out.go (grown_of_below hb1)) HSEE.out)
  have HG1 : Hid (w.grownBy w1 (some R)) := Lib.hid (grown_of_below hb1)
  clear hb1
  go_wp2_with fail
  refine HG.out.mono ?_
  intro e w2 hr
  obtain ⟨A, n, c, b, rfl, hr2⟩ := hr.tup
  have HRES := Lib.hid (retR_trans HG1.out hr2)
  clear hr hr2
  go_wp2_with fail
  refine bodyPost_ret (results_tmp2 rfl _ _ _) rfl ?_
  exact HRES.out
end Go.Proofs.YtenmkbpdkfhbjaaGreat
