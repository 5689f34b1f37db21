/- The program's reader: a leaf, two of them, or a column in parentheses. -/
import Derived.Test.YtenmkbpdkfhbjaaGreatRcCdAbove
import Derived.Deep.RegionWith
import Derived.RegionDies
namespace Go.Proofs.YtenmkbpdkfhbjaaGreat
open Go Go.RowKit

theorem ret_over {w W : World} {R : Nat} {s : ByteArray} {j : Nat} {old : Array Value} (hz : W.heap[w.heap.size]? = some (.cells old 114 (0, 0))) (hg : w.grownBy W (some R)) (hr : RdrIs R (.iface 96 (.agg #[])) s j W) (hR : R < w.heap.size) {x : Cd.Item} {z : Int} {A : Option Addr} {c : Nat} (b : Bool)
  (hsg : if x.node.kind = 1 then S0 x.code z else z = x.node.sign) (hk : RdH (KI S0) 114 W (fun b => w.heap.size < b ∧ b < W.heap.size) (.slice A x.kids.length c) x.kids) {q : Cd.R (Cd.Item × Bool)} (hq : q = .ok (x, b) j) :
  RetP R (.iface 96 (.agg #[])) s vlO q w (.returned (.tuple #[aggI x.node z (Cd.bs x.code) x.pos (.slice A x.kids.length c), .bool b])) (W.setRow w.heap.size (rowI x.node z (Cd.bs x.code) x.pos (.slice A x.kids.length c))) := by
 obtain ⟨f1, f2, f3, f4⟩ := ret_box hz hg hr hR (rowI x.node z (Cd.bs x.code) x.pos (.slice A x.kids.length c))
 rw [hq]
 exact ⟨f1, f2, _, rfl, _, rfl, z, A, c, rfl, hsg, hk.keep fun b hb => ⟨⟨Nat.le_of_lt hb.1, by rw [setRow_size]; exact hb.2⟩, f4 b (by omega)⟩⟩
structure StZ (w : World) (R : Nat) (s : ByteArray) (j : Nat) (cz : Array Value) (W : World) : Prop where
 g : w.grownBy W (some R)
 r : RdrIs R (.iface 96 (.agg #[])) s j W
 z : W.heap[w.heap.size]? = some (.cells cz 114 (0, 0))
 hR : R < w.heap.size
theorem StZ.call {w W W' : World} {R : Nat} {s : ByteArray} {j j' : Nat} {cz : Array Value} (h : StZ w R s j cz W) (hg : W.grownBy W' (some R)) (hr : RdrIs R (.iface 96 (.agg #[])) s j' W') : StZ w R s j' cz W' :=
 ⟨grown_trans h.g hg, hr, (hg.block _ (lt_of_some h.z) (fun e => by have := h.hR; cases e; omega)).trans h.z, h.hR⟩
theorem StZ.below {w W W' : World} {R : Nat} {s : ByteArray} {j : Nat} {cz : Array Value} (h : StZ w R s j cz W) (hb : Below W.heap.size W W') : StZ w R s j cz W' :=
 h.call (grown_of_below hb) (h.r.keep (hb.block R h.r.at.2.2.2.2))
theorem StZ.set {w W : World} {R : Nat} {s : ByteArray} {j : Nat} {cz : Array Value} (h : StZ w R s j cz W) (cs : Array Value) : StZ w R s j cs (W.setRow w.heap.size cs) := by
 obtain ⟨f1, f2, f3, -⟩ := ret_box h.z h.g h.r h.hR cs
 exact ⟨f1, f2, f3, h.hR⟩
theorem two_items {w : World} {B : Nat} {x y : Cd.Item} {z z2 : Int} {A A2 : Option Addr} {c c2 : Nat} (hB : B < w.heap.size) (hx : if x.node.kind = 1 then S0 x.code z else z = x.node.sign) (hkx : RdH (KI S0) 114 w (fun b => B < b ∧ b < w.heap.size) (.slice A x.kids.length c) x.kids)
  (hy : if y.node.kind = 1 then S0 y.code z2 else z2 = y.node.sign) (hky : RdH (KI S0) 114 w (fun b => B < b ∧ b < w.heap.size) (.slice A2 y.kids.length c2) y.kids) :
  RdH (KI S0) 114 (w.alloc (.cells #[.int .i64 x.node.kind, .int .i64 x.node.depth, .int .i64 z, .int .i64 x.node.turn, .bool x.node.mirror, .int .i64 x.node.state, .int .i64 x.node.lo, .int .i64 x.node.hi, .string (Cd.bs x.code), .int .i64 x.pos, .slice A x.kids.length c,
   .int .i64 y.node.kind, .int .i64 y.node.depth, .int .i64 z2, .int .i64 y.node.turn, .bool y.node.mirror, .int .i64 y.node.state, .int .i64 y.node.lo, .int .i64 y.node.hi, .string (Cd.bs y.code), .int .i64 y.pos, .slice A2 y.kids.length c2] 114))
   (fun b => B < b ∧ b < w.heap.size + 1) (.slice (some ⟨w.heap.size, 0, none⟩) 2 2) [x, y] := by
 refine ⟨_, 2, rfl, by simp, by decide, fun _ => ⟨w.heap.size, _, rfl, ⟨hB, by omega⟩, heap_alloc_new _ _, fun i a ha => ?_⟩⟩
 have hk : ∀ o b, (B < b ∧ b < w.heap.size) → (B < b ∧ b < w.heap.size + 1) ∧ (w.alloc o).heap[b]? = w.heap[b]? := fun o b hb => ⟨⟨hb.1, by omega⟩, Below.heap_alloc _ _ _ hb.2⟩
 match i, ha with
 | 0, ha =>
  simp at ha
  subst ha
  refine ⟨_, ki_mk hx (hkx.keep (hk _)), fun j u hj => ?_⟩
  have hl := (List.getElem?_eq_some_iff.1 hj).1
  simp [encNz] at hl
  rw [show 0 * (KI S0).size + j = j by omega]
  rcases (show j = 0 ∨ j = 1 ∨ j = 2 ∨ j = 3 ∨ j = 4 ∨ j = 5 ∨ j = 6 ∨ j = 7 ∨ j = 8 ∨ j = 9 ∨ j = 10 by omega) with rfl | rfl | rfl | rfl | rfl | rfl | rfl | rfl | rfl | rfl | rfl <;> exact hj
 | 1, ha =>
  simp at ha
  subst ha
  refine ⟨_, ki_mk hy (hky.keep (hk _)), fun j u hj => ?_⟩
  have hl := (List.getElem?_eq_some_iff.1 hj).1
  simp [encNz] at hl
  rw [show 1 * (KI S0).size + j = 11 + j by show 1 * 11 + j = _; omega]
  rcases (show j = 0 ∨ j = 1 ∨ j = 2 ∨ j = 3 ∨ j = 4 ∨ j = 5 ∨ j = 6 ∨ j = 7 ∨ j = 8 ∨ j = 9 ∨ j = 10 by omega) with rfl | rfl | rfl | rfl | rfl | rfl | rfl | rfl | rfl | rfl | rfl <;> exact hj
 | i + 2, ha => simp at ha
set_option maxRecDepth 100000 in
set_option maxHeartbeats 16000000 in
theorem over_step (R : Nat) (s : ByteArray) (f : Nat) (k : Nat) (w : World) (h : RdrIs R (.iface 96 (.agg #[])) s k w) (hs : s.size ≤ 1000000)
  (ih : ∀ (j : Nat) (W : World), k + 1 ≤ j → RdrIs R (.iface 96 (.agg #[])) s j W → Calls Tryz.prog 157 #[.pointer (some ⟨R, 0, none⟩)] W (RetP R (.iface 96 (.agg #[])) s vlO (Cd.overG s.data.toList f j) W)) :
  Calls Tryz.prog 157 #[.pointer (some ⟨R, 0, none⟩)] w (RetP R (.iface 96 (.agg #[])) s vlO (Cd.overG s.data.toList (f + 1) k) w) := by
 have HIS := Lib.hid (fun (j : Nat) (c : UInt8) (W : World) (hr : RdrIs R (.iface 96 (.agg #[])) s j W) => is_any R (.iface 96 (.agg #[])) s j c W hr hs)
 have HMU := Lib.hid (fun (j : Nat) (c : UInt8) (W : World) (hr : RdrIs R (.iface 96 (.agg #[])) s j W) => must_any R (.iface 96 (.agg #[])) s j c W hr hs)
 have HLF := Lib.hid (fun (j : Nat) (W : World) (hr : RdrIs R (.iface 96 (.agg #[])) s j W) => leaf_any R s j W hr hs)
 have HAB := Lib.hid (fun (W : World) (hr : RdrIs R (.iface 96 (.agg #[])) s (k + 1) W) => above_any R s (Cd.overG s.data.toList f) true (k + 1) W hr hs ih (Cd.over_mono f))
 have HQ : Hid (Cd.overG s.data.toList (f + 1) k = if Cd.sees s.data.toList k 40 = true then (Cd.aboveG s.data.toList (Cd.overG s.data.toList f) true (k + 1)).bind fun x k1 => (Cd.must s.data.toList k1 41).bind fun _ k2 => .ok (x, true) k2
   else (Cd.leafG s.data.toList k).bind fun x k1 => if Cd.sees s.data.toList k1 38 = true then (Cd.leafG s.data.toList (k1 + 1)).bind fun y k2 => .ok (.mk (Cd.kindN 4) [] 0 [x, y], false) k2 else .ok (x, false) k1) := Lib.hid rfl
 clear ih
 obtain ⟨W1, hW1⟩ : ∃ W1, W1 = w.alloc (.cells #[.int .i64 0, .int .i64 0, .int .i64 0, .int .i64 0, .bool false, .int .i64 0, .int .i64 0, .int .i64 0, .string ⟨#[]⟩, .int .i64 0, .slice none 0 0] 114) := ⟨_, rfl⟩
 have HS1 : Hid (St0 w R (.iface 96 (.agg #[])) s k W1) := Lib.hid (by rw [hW1]; exact St0.start h)
 have HW1 := Lib.hid hW1
 clear h hW1
 go_enter Tryz.func157, Tryz.ntmps157
 go_upto_region 1 with fail
 rw [← HW1.out]
 go_wp2_with fail
 refine (HIS.out k 40 W1 HS1.out.r).mono ?_
 rintro e w2 ⟨he, hg2, hr2, -⟩
 cases hsee : Cd.sees s.data.toList k 40
 ·rw [hsee] at hr2 HQ he
  subst he
  rw [if_neg Bool.false_ne_true] at hr2 HQ
  have HS2 := Lib.hid (HS1.out.call hg2 hr2)
  clear hsee hg2 hr2
  have HG := Lib.hid (HLF.out k w2 HS2.out.r)
  unfold RetP at HG
  cases hgl : Cd.leafG s.data.toList k with
  | bad jb =>
   rw [hgl] at HG HQ
   clear hgl
   go_wp2_with fail
   refine HG.out.mono ?_
   rintro e w3 ⟨hgw, rfl⟩
   rw [HQ.out]
   exact ⟨rfl, grown_trans HS2.out.g hgw, rfl⟩
  | ok x k1 =>
   rw [hgl] at HG HQ
   clear hgl
   go_wp2_with fail
   refine HG.out.mono ?_
   rintro e w3 ⟨hgw, hrw, v, rfl, z, A, c, rfl, hsg, hk⟩
   have HS3 := Lib.hid (HS2.out.call hgw hrw)
   have hz3 := HS3.out.z
   obtain ⟨z0, z1, z2, z3, z4, z5, z6, z7, z8, z9, z10⟩ := box_cells hz3
   obtain ⟨y0, y1, y2, y3, y4, y5, y6, y7, y8, y9, y10⟩ := box_free hz3
   have HZ3 := Lib.hid hz3
   have HSG := Lib.hid hsg
   have HK := Lib.hid hk
   have HGZ := Lib.hid hgw.size
   clear hgw hrw hsg hk HG hz3
   unfold aggI
   go_upto_region 6 with fail
   rw [set_box HZ3.out]
   obtain ⟨w4, hw4⟩ : ∃ w4, w4 = w3.setRow w.heap.size #[.int .i64 x.node.kind, .int .i64 x.node.depth, .int .i64 z, .int .i64 x.node.turn, .bool x.node.mirror, .int .i64 x.node.state, .int .i64 x.node.lo, .int .i64 x.node.hi, .string (Cd.bs x.code), .int .i64 x.pos, .slice A x.kids.length c] := ⟨_, rfl⟩
   rw [← hw4]
   have HS4 : Hid (StZ w R s k1 #[.int .i64 x.node.kind, .int .i64 x.node.depth, .int .i64 z, .int .i64 x.node.turn, .bool x.node.mirror, .int .i64 x.node.state, .int .i64 x.node.lo, .int .i64 x.node.hi, .string (Cd.bs x.code), .int .i64 x.pos, .slice A x.kids.length c] w4) := Lib.hid (by rw [hw4]; exact StZ.set ⟨HS3.out.g, HS3.out.r, HS3.out.z, HS3.out.hR⟩ _)
   have HK4 : Hid (RdH (KI S0) 114 w4 (fun b => w.heap.size < b ∧ b < w4.heap.size) (.slice A x.kids.length c) x.kids) := Lib.hid (by
    rw [hw4]
    refine HK.out.keep fun b hb => ⟨⟨by have := lt_of_some HS2.out.z; omega, by rw [setRow_size]; exact hb.2⟩, setRow_other _ _ _ _ (by have := lt_of_some HS2.out.z; omega)⟩)
   have HI := Lib.hid (HIS.out k1 38 w4 HS4.out.r)
   clear hw4 z0 z1 z2 z3 z4 z5 z6 z7 z8 z9 z10 y0 y1 y2 y3 y4 y5 y6 y7 y8 y9 y10 HGZ
   go_wp2_with fail
   refine HI.out.mono ?_
   rintro e w5 ⟨he, hg5, hr5, -⟩
   dsimp only [Cd.R.bind] at HQ
   cases hsee : Cd.sees s.data.toList k1 38
   ·rw [hsee] at hr5 HQ he
    subst he
    rw [if_neg Bool.false_ne_true] at hr5 HQ
    have HS5 := Lib.hid (HS4.out.call hg5 hr5)
    have HK5 := Lib.hid (HK4.out.keep (w' := w5) (ok' := fun b => w.heap.size < b ∧ b < w5.heap.size) fun b hb => ⟨⟨hb.1, Nat.lt_of_lt_of_le hb.2 hg5.size⟩, hg5.block b hb.2 (fun e => by cases e; have := HS4.out.hR; omega)⟩)
    clear hsee hg5 hr5 HI
    have hz5 := HS5.out.z
    obtain ⟨z0, z1, z2, z3, z4, z5, z6, z7, z8, z9, z10⟩ := box_cells hz5
    obtain ⟨y0, y1, y2, y3, y4, y5, y6, y7, y8, y9, y10⟩ := box_free hz5
    have HZ5 := Lib.hid hz5
    clear hz5
    go_wp2_with fail
    rw [set_box HZ5.out]
    obtain ⟨r0, r1, r2, r3, r4, r5, r6, r7, r8, r9, r10⟩ := box_cells (setRow_heap _ _ _ #[.int .i64 x.node.kind, .int .i64 x.node.depth, .int .i64 z, .int .i64 x.node.turn, .bool x.node.mirror, .int .i64 x.node.state, .int .i64 x.node.lo, .int .i64 x.node.hi, .string (Cd.bs x.code), .int .i64 x.pos, .slice A x.kids.length c] _ _ HZ5.out)
    refine bodyPost_ret (v := .tuple #[aggI x.node z (Cd.bs x.code) x.pos (.slice A x.kids.length c), .bool false]) (by simp [results, Tryz.results157, go_sem, r0, r1, r2, r3, r4, r5, r6, r7, r8, r9, r10]; rfl) rfl ?_
    exact ret_over HZ5.out HS5.out.g HS5.out.r HS5.out.hR false HSG.out HK5.out HQ.out
   ·rw [hsee] at hr5 HQ he
    subst he
    rw [if_pos rfl] at hr5 HQ
    have HS5 := Lib.hid (HS4.out.call hg5 hr5)
    have HK5 := Lib.hid (HK4.out.keep (w' := w5) (ok' := fun b => w.heap.size < b ∧ b < w5.heap.size) fun b hb => ⟨⟨hb.1, Nat.lt_of_lt_of_le hb.2 hg5.size⟩, hg5.block b hb.2 (fun e => by cases e; have := HS4.out.hR; omega)⟩)
    clear hsee hg5 hr5 HI
    have HG := Lib.hid (fun (n : Nat) => HLF.out (k1 + 1) (w5.drewN n) (HS5.out.r.keep rfl))
    unfold RetP at HG
    have hz5 := HS5.out.z
    obtain ⟨z0, z1, z2, z3, z4, z5, z6, z7, z8, z9, z10⟩ := box_cells hz5
    clear hz5
    cases hgl : Cd.leafG s.data.toList (k1 + 1) with
    | bad jb =>
     rw [hgl] at HG HQ
     clear hgl
     go_upto_region 7 with fail
     go_region_dies
     all_goals
      refine (HG.out 1).mono ?_
      rintro e w6 ⟨hgw, rfl⟩
      rw [HQ.out]
      exact ⟨rfl, grown_trans (grown_drew' HS5.out.g 1) hgw, rfl⟩
    | ok y k2 =>
     rw [hgl] at HG HQ
     clear hgl
     dsimp only [Cd.R.bind] at HQ
     go_upto_region 7 with fail
     go_region_with (refine (HG.out 1).mono ?_; rintro e w6 ⟨hgw, hrw, _, rfl, zy, A2, c2, rfl, hsgy, hky⟩; have HS6 := Lib.hid ((HS5.out.below (drew_below 1)).call hgw hrw); have HK6 := Lib.hid (HK5.out.keep (w' := w6) (ok' := fun b => w.heap.size < b ∧ b < w6.heap.size) fun b hb => ⟨⟨hb.1, Nat.lt_of_lt_of_le hb.2 hgw.size⟩, hgw.block b hb.2 (fun e => by cases e; have := HS5.out.hR; omega)⟩); have HSY := Lib.hid hsgy; have HKY := Lib.hid hky; have HGZ := Lib.hid hgw.size; have hz6 := HS6.out.z; obtain ⟨z0', z1', z2', z3', z4', z5', z6', z7', z8', z9', z10'⟩ := box_cells hz6; obtain ⟨y0', y1', y2', y3', y4', y5', y6', y7', y8', y9', y10'⟩ := box_free hz6; have HZ6 := Lib.hid hz6; have hltz := lt_of_some hz6; clear hgw hrw hsgy hky hz6; unfold aggI)
     all_goals
      rw [set_box HZ6.out]
      obtain ⟨w7, hw7⟩ : ∃ w7, w7 = w6.setRow w.heap.size #[.int .i64 4, .int .i64 0, .int .i64 0, .int .i64 0, .bool false, .int .i64 0, .int .i64 0, .int .i64 0, .string ⟨#[]⟩, .int .i64 0, .slice (some ⟨w6.heap.size, 0, none⟩) 2 2] := ⟨_, rfl⟩
      rw [← hw7]
      have hgz := HGZ.out
      have hsz7 : w7.heap.size = w6.heap.size := by rw [hw7]; exact setRow_size _ _ _
      have hk7 : ∀ b, b ≠ w.heap.size → w7.heap[b]? = w6.heap[b]? := fun b hb => by rw [hw7]; exact setRow_other _ _ _ _ hb
      have HS7 : Hid (StZ w R s k2 #[.int .i64 4, .int .i64 0, .int .i64 0, .int .i64 0, .bool false, .int .i64 0, .int .i64 0, .int .i64 0, .string ⟨#[]⟩, .int .i64 0, .slice (some ⟨w6.heap.size, 0, none⟩) 2 2] w7) := Lib.hid (by rw [hw7]; exact HS6.out.set _)
      have HK7 : Hid (RdH (KI S0) 114 (w7.alloc (.cells #[.int .i64 x.node.kind, .int .i64 x.node.depth, .int .i64 z, .int .i64 x.node.turn, .bool x.node.mirror, .int .i64 x.node.state, .int .i64 x.node.lo, .int .i64 x.node.hi, .string (Cd.bs x.code), .int .i64 x.pos, .slice A x.kids.length c, .int .i64 y.node.kind, .int .i64 y.node.depth, .int .i64 zy, .int .i64 y.node.turn, .bool y.node.mirror, .int .i64 y.node.state, .int .i64 y.node.lo, .int .i64 y.node.hi, .string (Cd.bs y.code), .int .i64 y.pos, .slice A2 y.kids.length c2] 114)) (fun b => w.heap.size < b ∧ b < w6.heap.size + 1) (.slice (some ⟨w6.heap.size, 0, none⟩) 2 2) [x, y]) := Lib.hid (by
       have q := two_items (w := w7) (B := w.heap.size) (x := x) (y := y) (z := z) (z2 := zy) (A := A) (A2 := A2) (c := c) (c2 := c2) (by omega) HSG.out (HK6.out.keep fun b hb => ⟨⟨hb.1, by omega⟩, hk7 b (by omega)⟩) HSY.out (HKY.out.keep fun b hb => by
        have h1 : w5.heap.size ≤ b := hb.1
        have := lt_of_some HS5.out.z
        have := hb.2
        exact ⟨⟨by omega, by omega⟩, hk7 b (by omega)⟩)
       rw [hsz7] at q
       exact q)
      have HS8 : Hid (StZ w R s k2 #[.int .i64 4, .int .i64 0, .int .i64 0, .int .i64 0, .bool false, .int .i64 0, .int .i64 0, .int .i64 0, .string ⟨#[]⟩, .int .i64 0, .slice (some ⟨w6.heap.size, 0, none⟩) 2 2] (w7.alloc (.cells #[.int .i64 x.node.kind, .int .i64 x.node.depth, .int .i64 z, .int .i64 x.node.turn, .bool x.node.mirror, .int .i64 x.node.state, .int .i64 x.node.lo, .int .i64 x.node.hi, .string (Cd.bs x.code), .int .i64 x.pos, .slice A x.kids.length c, .int .i64 y.node.kind, .int .i64 y.node.depth, .int .i64 zy, .int .i64 y.node.turn, .bool y.node.mirror, .int .i64 y.node.state, .int .i64 y.node.lo, .int .i64 y.node.hi, .string (Cd.bs y.code), .int .i64 y.pos, .slice A2 y.kids.length c2] 114))) := Lib.hid (HS7.out.below ((Below.refl _ _).alloc (Nat.le_refl _) _))
      have HSZ8 : Hid ((w7.alloc (.cells #[.int .i64 x.node.kind, .int .i64 x.node.depth, .int .i64 z, .int .i64 x.node.turn, .bool x.node.mirror, .int .i64 x.node.state, .int .i64 x.node.lo, .int .i64 x.node.hi, .string (Cd.bs x.code), .int .i64 x.pos, .slice A x.kids.length c, .int .i64 y.node.kind, .int .i64 y.node.depth, .int .i64 zy, .int .i64 y.node.turn, .bool y.node.mirror, .int .i64 y.node.state, .int .i64 y.node.lo, .int .i64 y.node.hi, .string (Cd.bs y.code), .int .i64 y.pos, .slice A2 y.kids.length c2] 114)).heap.size = w6.heap.size + 1) := Lib.hid (by rw [← hsz7]; simp)
      clear hw7 hsz7 hk7 z0' z1' z2' z3' z4' z5' z6' z7' z8' z9' z10' y0' y1' y2' y3' y4' y5' y6' y7' y8' y9' y10' z0 z1 z2 z3 z4 z5 z6 z7 z8 z9 z10
      generalize w7.alloc (.cells #[.int .i64 x.node.kind, .int .i64 x.node.depth, .int .i64 z, .int .i64 x.node.turn, .bool x.node.mirror, .int .i64 x.node.state, .int .i64 x.node.lo, .int .i64 x.node.hi, .string (Cd.bs x.code), .int .i64 x.pos, .slice A x.kids.length c, .int .i64 y.node.kind, .int .i64 y.node.depth, .int .i64 zy, .int .i64 y.node.turn, .bool y.node.mirror, .int .i64 y.node.state, .int .i64 y.node.lo, .int .i64 y.node.hi, .string (Cd.bs y.code), .int .i64 y.pos, .slice A2 y.kids.length c2] 114) = w8 at HK7 HS8 HSZ8 ⊢
      have hz8 := HS8.out.z
      obtain ⟨z0, z1, z2, z3, z4, z5, z6, z7, z8, z9, z10⟩ := box_cells hz8
      obtain ⟨y0, y1, y2, y3, y4, y5, y6, y7, y8, y9, y10⟩ := box_free hz8
      have HZ8 := Lib.hid hz8
      clear hz8
      go_wp2_with fail
      rw [set_box HZ8.out]
      obtain ⟨r0, r1, r2, r3, r4, r5, r6, r7, r8, r9, r10⟩ := box_cells (setRow_heap _ _ _ #[.int .i64 4, .int .i64 0, .int .i64 0, .int .i64 0, .bool false, .int .i64 0, .int .i64 0, .int .i64 0, .string ⟨#[]⟩, .int .i64 0, .slice (some ⟨w6.heap.size, 0, none⟩) 2 2] _ _ HZ8.out)
      refine bodyPost_ret (v := .tuple #[aggI (Cd.kindN 4) 0 (Cd.bs []) (0 : Nat) (.slice (some ⟨w6.heap.size, 0, none⟩) 2 2), .bool false]) (by simp [results, Tryz.results157, go_sem, r0, r1, r2, r3, r4, r5, r6, r7, r8, r9, r10]; rfl) rfl ?_
      exact ret_over (x := .mk (Cd.kindN 4) [] 0 [x, y]) HZ8.out HS8.out.g HS8.out.r HS8.out.hR false rfl (by rw [HSZ8.out]; exact HK7.out) HQ.out
 ·rw [hsee] at hr2 HQ he
  subst he
  rw [if_pos rfl] at hr2 HQ
  have HS2 := Lib.hid (HS1.out.call hg2 hr2)
  clear hsee hg2 hr2
  have HG := Lib.hid (HAB.out w2 HS2.out.r)
  unfold RetP at HG
  cases hgl : Cd.aboveG s.data.toList (Cd.overG s.data.toList f) true (k + 1) with
  | bad jb =>
   rw [hgl] at HG HQ
   clear hgl
   go_wp2_with fail
   refine HG.out.mono ?_
   rintro e w3 ⟨hgw, rfl⟩
   rw [HQ.out]
   exact ⟨rfl, grown_trans HS2.out.g hgw, rfl⟩
  | ok x k1 =>
   rw [hgl] at HG HQ
   clear hgl
   dsimp only [Cd.R.bind] at HQ
   go_wp2_with fail
   refine HG.out.mono ?_
   rintro e w3 ⟨hgw, hrw, v, rfl, z, A, c, rfl, hsg, hk⟩
   have HS3 := Lib.hid (HS2.out.call hgw hrw)
   have hz3 := HS3.out.z
   obtain ⟨z0, z1, z2, z3, z4, z5, z6, z7, z8, z9, z10⟩ := box_cells hz3
   obtain ⟨y0, y1, y2, y3, y4, y5, y6, y7, y8, y9, y10⟩ := box_free hz3
   have HZ3 := Lib.hid hz3
   have HSG := Lib.hid hsg
   have HK := Lib.hid hk
   clear hgw hrw hsg hk HG hz3
   unfold aggI
   go_upto_region 3 with fail
   rw [set_box HZ3.out]
   obtain ⟨w4, hw4⟩ : ∃ w4, w4 = w3.setRow w.heap.size #[.int .i64 x.node.kind, .int .i64 x.node.depth, .int .i64 z, .int .i64 x.node.turn, .bool x.node.mirror, .int .i64 x.node.state, .int .i64 x.node.lo, .int .i64 x.node.hi, .string (Cd.bs x.code), .int .i64 x.pos, .slice A x.kids.length c] := ⟨_, rfl⟩
   rw [← hw4]
   have HS4 : Hid (StZ w R s k1 #[.int .i64 x.node.kind, .int .i64 x.node.depth, .int .i64 z, .int .i64 x.node.turn, .bool x.node.mirror, .int .i64 x.node.state, .int .i64 x.node.lo, .int .i64 x.node.hi, .string (Cd.bs x.code), .int .i64 x.pos, .slice A x.kids.length c] w4) := Lib.hid (by rw [hw4]; exact StZ.set ⟨HS3.out.g, HS3.out.r, HS3.out.z, HS3.out.hR⟩ _)
   have HK4 : Hid (RdH (KI S0) 114 w4 (fun b => w.heap.size < b ∧ b < w4.heap.size) (.slice A x.kids.length c) x.kids) := Lib.hid (by
    rw [hw4]
    refine HK.out.keep fun b hb => ⟨⟨by have h1 : w2.heap.size ≤ b := hb.1; have := lt_of_some HS2.out.z; omega, by rw [setRow_size]; exact hb.2⟩, setRow_other _ _ _ _ (by have h1 : w2.heap.size ≤ b := hb.1; have := lt_of_some HS2.out.z; omega)⟩)
   have HM := Lib.hid (HMU.out k1 41 w4 HS4.out.r)
   unfold RetP at HM
   clear hw4 z0 z1 z2 z3 z4 z5 z6 z7 z8 z9 z10 y0 y1 y2 y3 y4 y5 y6 y7 y8 y9 y10
   cases hmu : Cd.must s.data.toList k1 41 with
   | bad jb =>
    rw [hmu] at HM HQ
    clear hmu
    go_wp2_with fail
    refine HM.out.mono ?_
    rintro e w5 ⟨hgw, rfl⟩
    rw [HQ.out]
    exact ⟨rfl, grown_trans HS4.out.g hgw, rfl⟩
   | ok u k2 =>
    rw [hmu] at HM HQ
    clear hmu
    go_wp2_with fail
    refine HM.out.mono ?_
    rintro e w5 ⟨hg5, hr5, _, rfl, rfl⟩
    have HS5 := Lib.hid (HS4.out.call hg5 hr5)
    have HK5 := Lib.hid (HK4.out.keep (w' := w5) (ok' := fun b => w.heap.size < b ∧ b < w5.heap.size) fun b hb => ⟨⟨hb.1, Nat.lt_of_lt_of_le hb.2 hg5.size⟩, hg5.block b hb.2 (fun e => by cases e; have := HS4.out.hR; omega)⟩)
    clear hg5 hr5 HM
    have hz5 := HS5.out.z
    obtain ⟨z0, z1, z2, z3, z4, z5, z6, z7, z8, z9, z10⟩ := box_cells hz5
    obtain ⟨y0, y1, y2, y3, y4, y5, y6, y7, y8, y9, y10⟩ := box_free hz5
    have HZ5 := Lib.hid hz5
    clear hz5
    go_wp2_with fail
    rw [set_box HZ5.out]
    obtain ⟨r0, r1, r2, r3, r4, r5, r6, r7, r8, r9, r10⟩ := box_cells (setRow_heap _ _ _ #[.int .i64 x.node.kind, .int .i64 x.node.depth, .int .i64 z, .int .i64 x.node.turn, .bool x.node.mirror, .int .i64 x.node.state, .int .i64 x.node.lo, .int .i64 x.node.hi, .string (Cd.bs x.code), .int .i64 x.pos, .slice A x.kids.length c] _ _ HZ5.out)
    refine bodyPost_ret (v := .tuple #[aggI x.node z (Cd.bs x.code) x.pos (.slice A x.kids.length c), .bool true]) (by simp [results, Tryz.results157, go_sem, r0, r1, r2, r3, r4, r5, r6, r7, r8, r9, r10]; rfl) rfl ?_
    exact ret_over HZ5.out HS5.out.g HS5.out.r HS5.out.hR true HSG.out HK5.out HQ.out
theorem over_any (R : Nat) (s : ByteArray) (hs : s.size ≤ 1000000) : ∀ (f k : Nat) (w : World), s.size + 1 - k ≤ f → RdrIs R (.iface 96 (.agg #[])) s k w → Calls Tryz.prog 157 #[.pointer (some ⟨R, 0, none⟩)] w (RetP R (.iface 96 (.agg #[])) s vlO (Cd.overG s.data.toList f k) w)
 | 0, k, w, hf, h => absurd h.le (by omega)
 | f + 1, k, w, hf, h => over_step R s f k w h hs fun j W hj hr => over_any R s hs f j W (by omega) hr
theorem above_all (R : Nat) (s : ByteArray) (hs : s.size ≤ 1000000) (b : Bool) (k : Nat) (w : World) (h : RdrIs R (.iface 96 (.agg #[])) s k w) : Calls Tryz.prog 148 #[.pointer (some ⟨R, 0, none⟩), .bool b] w (RetP R (.iface 96 (.agg #[])) s (VI S0) (Cd.aboveG s.data.toList (Cd.overG s.data.toList (Cd.N s.data.toList)) b k) w) :=
 above_any R s _ b k w h hs (fun j W _ hr => over_any R s hs _ j W (by unfold Cd.N; simp) hr) (Cd.over_mono _)
end Go.Proofs.YtenmkbpdkfhbjaaGreat
