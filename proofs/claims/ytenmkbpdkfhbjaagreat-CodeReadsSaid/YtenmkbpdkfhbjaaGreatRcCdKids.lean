/- The program's reader: a leaf.; code.one: a node with kids, or its only kid.; A list of items of the call's own grows. -/
import Derived.Test.YtenmkbpdkfhbjaaGreatRcCdGlyph
namespace Go.Proofs.YtenmkbpdkfhbjaaGreat
open Go Go.RowKit

structure St0 (w : World) (R : Nat) (cv : Value) (s : ByteArray) (j : Nat) (W : World) : Prop where
 g : w.grownBy W (some R)
 r : RdrIs R cv s j W
 z : W.heap[w.heap.size]? = some (.cells #[.int .i64 0, .int .i64 0, .int .i64 0, .int .i64 0, .bool false, .int .i64 0, .int .i64 0, .int .i64 0, .string ⟨#[]⟩, .int .i64 0, .slice none 0 0] 114 (0, 0))
 hR : R < w.heap.size
theorem St0.call {w W W' : World} {R : Nat} {cv : Value} {s : ByteArray} {j j' : Nat} (h : St0 w R cv s j W) (hg : W.grownBy W' (some R)) (hr : RdrIs R cv s j' W') : St0 w R cv s j' W' :=
 ⟨grown_trans h.g hg, hr, (hg.block _ (lt_of_some h.z) (fun e => by have := h.hR; cases e; omega)).trans h.z, h.hR⟩
theorem St0.below {w W W' : World} {R : Nat} {cv : Value} {s : ByteArray} {j : Nat} (h : St0 w R cv s j W) (hb : Below W.heap.size W W') : St0 w R cv s j W' :=
 h.call (grown_of_below hb) (h.r.keep (hb.block R h.r.at.2.2.2.2))
theorem St0.start {w : World} {R : Nat} {cv : Value} {s : ByteArray} {j : Nat} (h : RdrIs R cv s j w) : St0 w R cv s j (w.alloc (.cells #[.int .i64 0, .int .i64 0, .int .i64 0, .int .i64 0, .bool false, .int .i64 0, .int .i64 0, .int .i64 0, .string ⟨#[]⟩, .int .i64 0, .slice none 0 0] 114)) := by
 have hb : Below w.heap.size w (w.alloc (.cells #[.int .i64 0, .int .i64 0, .int .i64 0, .int .i64 0, .bool false, .int .i64 0, .int .i64 0, .int .i64 0, .string ⟨#[]⟩, .int .i64 0, .slice none 0 0] 114)) := (Below.refl _ _).alloc (Nat.le_refl _) _
 exact ⟨grown_of_below hb, h.keep (hb.block R h.at.2.2.2.2), heap_alloc_new _ _, h.at.2.2.2.2⟩
def rowI (n : Tx.Node) (z : Int) (c : ByteArray) (p : Int) (v : Value) : Array Value := #[.int .i64 n.kind, .int .i64 n.depth, .int .i64 z, .int .i64 n.turn, .bool n.mirror, .int .i64 n.state, .int .i64 n.lo, .int .i64 n.hi, .string c, .int .i64 p, v]
theorem St0.box {w W : World} {R : Nat} {cv : Value} {s : ByteArray} {j : Nat} (h : St0 w R cv s j W) (cs : Array Value) : St w R cv s j W.heap.size cs (W.alloc (.cells cs 114)) := by
 have h1 := h.below ((Below.refl _ _).alloc (Nat.le_refl W.heap.size) (.cells cs 114))
 exact ⟨h1.g, h1.r, h1.z, heap_alloc_new _ _, h1.hR, lt_of_some h.z⟩

set_option maxRecDepth 100000 in
set_option maxHeartbeats 8000000 in
theorem leaf_any (R : Nat) (s : ByteArray) (k : Nat) (w : World) (h : RdrIs R (.iface 96 (.agg #[])) s k w) (hs : s.size ≤ 1000000) :
  Calls Tryz.prog 159 #[.pointer (some ⟨R, 0, none⟩)] w (RetP R (.iface 96 (.agg #[])) s (VI S0) (Cd.leafG s.data.toList k) w) := by
 have HGL := Lib.hid (fun (j : Nat) (W : World) (hr : RdrIs R (.iface 96 (.agg #[])) s j W) => glyph_any R true s j W hr hs)
 have HDG := Lib.hid (fun (j : Nat) (W : World) (hr : RdrIs R (.iface 96 (.agg #[])) s j W) => digit_any R (.iface 96 (.agg #[])) s j 48 57 W hr hs (by decide))
 have HMU := Lib.hid (fun (j : Nat) (c : UInt8) (W : World) (hr : RdrIs R (.iface 96 (.agg #[])) s j W) => must_any R (.iface 96 (.agg #[])) s j c W hr hs)
 have HIS := Lib.hid (fun (j : Nat) (c : UInt8) (W : World) (hr : RdrIs R (.iface 96 (.agg #[])) s j W) => is_any R (.iface 96 (.agg #[])) s j c W hr hs)
 obtain ⟨W1, hW1⟩ : ∃ W1, W1 = w.alloc (.cells #[.int .i64 0, .int .i64 0, .int .i64 0, .int .i64 0, .bool false, .int .i64 0, .int .i64 0, .int .i64 0, .string ⟨#[]⟩, .int .i64 0, .slice none 0 0] 114) := ⟨_, rfl⟩
 have HS1 : Hid (St0 w R (.iface 96 (.agg #[])) s k W1) := Lib.hid (by rw [hW1]; exact St0.start h)
 have HW1 := Lib.hid hW1
 clear h hW1
 have HQ : Hid (Cd.leafG s.data.toList k = if Cd.sees s.data.toList k 123 = true then
   (Cd.digitG s.data.toList 48 57 (k + 1)).bind fun a k1 => (Cd.must s.data.toList k1 45).bind fun _ k2 => (Cd.digitG s.data.toList 48 57 k2).bind fun b k3 => (Cd.must s.data.toList k3 125).bind fun _ k4 => .ok (.mk (Cd.gapN a b) [] 0 []) k4
  else Cd.glyphG s.data.toList true k) := Lib.hid rfl
 go_enter Tryz.func159, Tryz.ntmps159
 go_upto_region 1 with fail
 rw [← HW1.out]
 go_wp2_with fail
 refine (HIS.out k 123 W1 HS1.out.r).mono ?_
 rintro e w2 ⟨he, hg2, hr2, -⟩
 cases hsee : Cd.sees s.data.toList k 123
 ·rw [hsee] at hr2 HQ he
  subst he
  rw [if_neg Bool.false_ne_true] at hr2 HQ
  have HS2 := Lib.hid (HS1.out.call hg2 hr2)
  clear hsee hg2 hr2
  have HG := Lib.hid (HGL.out k w2 HS2.out.r)
  unfold RetP at HG
  cases hgl : Cd.glyphG s.data.toList true k with
  | bad jb =>
   rw [hgl] at HG HQ
   clear hgl
   go_wp2_with fail
   refine HG.out.mono ?_
   rintro e w3 ⟨hgw, rfl⟩
   rw [HQ.out]
   exact ⟨rfl, grown_trans HS2.out.g hgw, rfl⟩
  | ok x j =>
   rw [hgl] at HG HQ
   clear hgl
   go_wp2_with fail
   refine HG.out.mono ?_
   rintro e w3 ⟨hgw, hrw, v, rfl, z, A, c, rfl, hsg, hk⟩
   have HS3 := Lib.hid (HS2.out.call hgw hrw)
   have HSG := Lib.hid hsg
   have HK := Lib.hid hk
   clear hgw hrw hsg hk HG
   have hz := HS3.out.z
   have HF := Lib.hid (ret_box hz HS3.out.g HS3.out.r HS3.out.hR (rowI x.node z (Cd.bs x.code) x.pos (.slice A x.kids.length c)))
   unfold aggI
   dsimp only
   apply_assumption
   refine wpList_store_row rfl 114 (.tmp 2) (.tmp 8) rfl w.heap.size (rowI x.node z (Cd.bs x.code) x.pos (.slice A x.kids.length c)) rfl rfl 114 _ hz (by kernel_rfl) rfl (by simp [rowI, Value.oneCell']) ?_
   clear hz
   go_wp2_with fail
   obtain ⟨f1, f2, f3, f4⟩ := HF.out
   refine bodyPost_ret (results_cell_row Tryz.results159 _ _ w.heap.size 114 _ (0, 0) _ rfl f3 Tryz.underlying114 rfl (by kernel_rfl)) rfl ?_
   rw [HQ.out]
   have hl := HS2.out.g.size
   exact ⟨f1, f2, _, rfl, z, A, c, rfl, HSG.out, HK.out.keep fun b hb => ⟨⟨by omega, by rw [setRow_size]; exact hb.2⟩, f4 b (by have := lt_of_some HS2.out.z; omega)⟩⟩
 ·rw [hsee] at hr2 HQ he
  subst he
  rw [if_pos rfl] at hr2 HQ
  have HS2 := Lib.hid (HS1.out.call hg2 hr2)
  clear hsee hg2 hr2
  go_upto_region 4 with fail
  have HS3 := Lib.hid (HS2.out.box #[.int .i64 6, .int .i64 0, .int .i64 0, .int .i64 0, .bool false, .int .i64 0, .int .i64 0, .int .i64 0, .string ⟨#[]⟩, .int .i64 0, .slice none 0 0])
  obtain ⟨X, hX⟩ : ∃ X, X = w2.heap.size := ⟨_, rfl⟩
  rw [← hX] at HS3 ⊢
  obtain ⟨w3, hw3⟩ : ∃ w3, w3 = w2.alloc (.cells #[.int .i64 6, .int .i64 0, .int .i64 0, .int .i64 0, .bool false, .int .i64 0, .int .i64 0, .int .i64 0, .string ⟨#[]⟩, .int .i64 0, .slice none 0 0] 114) := ⟨_, rfl⟩
  rw [← hw3] at HS3 ⊢
  clear hX hw3
  have HG := Lib.hid (HDG.out (k + 1) w3 HS3.out.r)
  unfold RetP at HG
  cases hgl : (Cd.digitG s.data.toList 48 57 (k + 1)) with
  | bad jb =>
   rw [hgl] at HG HQ
   clear hgl
   go_wp2_with fail
   refine HG.out.mono ?_
   rintro e w4 ⟨hgw, rfl⟩
   rw [HQ.out]
   exact ⟨rfl, grown_trans HS3.out.g hgw, rfl⟩
  | ok a k1 =>
   rw [hgl] at HG HQ
   have hqb := HQ.out
   dsimp only [Cd.R.bind] at hqb
   have HQ := Lib.hid hqb
   clear hgl hqb
   go_wp2_with fail
   refine HG.out.mono ?_
   rintro e w4 ⟨hgw, hrw, _, rfl, rfl⟩
   have HS4 := Lib.hid (HS3.out.call hgw hrw)
   clear hgw hrw HG
   have fx := (in_box HS4.out.x 6).1
   have fy := (in_box HS4.out.x 6).2
   simp at fx
   go_upto_region 5 with fail
   obtain ⟨w5, hw2⟩ : ∃ w5, w5 = w4.setCell ⟨X, 6, none⟩ (.int .i64 a) := ⟨_, rfl⟩
   rw [← hw2]
   have hsx : St w R _ s k1 X #[.int .i64 6, .int .i64 0, .int .i64 0, .int .i64 0, .bool false, .int .i64 0, .int .i64 a, .int .i64 0, .string ⟨#[]⟩, .int .i64 0, .slice none 0 0] _ := HS4.out.set 6 (.int .i64 a)
   rw [← hw2] at hsx
   have HS5 := Lib.hid hsx
   clear hw2 hsx fx fy
   have HG := Lib.hid (HMU.out k1 45 w5 HS5.out.r)
   unfold RetP at HG
   cases hgl : (Cd.must s.data.toList k1 45) with
   | bad jb =>
    rw [hgl] at HG HQ
    clear hgl
    go_wp2_with fail
    refine HG.out.mono ?_
    rintro e w6 ⟨hgw, rfl⟩
    rw [HQ.out]
    exact ⟨rfl, grown_trans HS5.out.g hgw, rfl⟩
   | ok u k2 =>
    rw [hgl] at HG HQ
    have hqb := HQ.out
    dsimp only [Cd.R.bind] at hqb
    have HQ := Lib.hid hqb
    clear hgl hqb
    go_wp2_with fail
    refine HG.out.mono ?_
    rintro e w6 ⟨hgw, hrw, _, rfl, rfl⟩
    have HS6 := Lib.hid (HS5.out.call hgw hrw)
    clear hgw hrw HG
    have HG := Lib.hid (HDG.out k2 w6 HS6.out.r)
    unfold RetP at HG
    cases hgl : (Cd.digitG s.data.toList 48 57 k2) with
    | bad jb =>
     rw [hgl] at HG HQ
     clear hgl
     go_wp2_with fail
     refine HG.out.mono ?_
     rintro e w7 ⟨hgw, rfl⟩
     rw [HQ.out]
     exact ⟨rfl, grown_trans HS6.out.g hgw, rfl⟩
    | ok b k3 =>
     rw [hgl] at HG HQ
     have hqb := HQ.out
     dsimp only [Cd.R.bind] at hqb
     have HQ := Lib.hid hqb
     clear hgl hqb
     go_wp2_with fail
     refine HG.out.mono ?_
     rintro e w7 ⟨hgw, hrw, _, rfl, rfl⟩
     have HS7 := Lib.hid (HS6.out.call hgw hrw)
     clear hgw hrw HG
     have fx := (in_box HS7.out.x 7).1
     have fy := (in_box HS7.out.x 7).2
     simp at fx
     go_upto_region 7 with fail
     obtain ⟨w8, hw2⟩ : ∃ w8, w8 = w7.setCell ⟨X, 7, none⟩ (.int .i64 b) := ⟨_, rfl⟩
     rw [← hw2]
     have hsx : St w R _ s k3 X #[.int .i64 6, .int .i64 0, .int .i64 0, .int .i64 0, .bool false, .int .i64 0, .int .i64 a, .int .i64 b, .string ⟨#[]⟩, .int .i64 0, .slice none 0 0] _ := HS7.out.set 7 (.int .i64 b)
     rw [← hw2] at hsx
     have HS8 := Lib.hid hsx
     clear hw2 hsx fx fy
     have HG := Lib.hid (HMU.out k3 125 w8 HS8.out.r)
     unfold RetP at HG
     cases hgl : (Cd.must s.data.toList k3 125) with
     | bad jb =>
      rw [hgl] at HG HQ
      clear hgl
      go_wp2_with fail
      refine HG.out.mono ?_
      rintro e w9 ⟨hgw, rfl⟩
      rw [HQ.out]
      exact ⟨rfl, grown_trans HS8.out.g hgw, rfl⟩
     | ok u2 k4 =>
      rw [hgl] at HG HQ
      have hqb := HQ.out
      dsimp only [Cd.R.bind] at hqb
      have HQ := Lib.hid hqb
      clear hgl hqb
      go_wp2_with fail
      refine HG.out.mono ?_
      rintro e w9 ⟨hgw, hrw, _, rfl, rfl⟩
      have HS9 := Lib.hid (HS8.out.call hgw hrw)
      clear hgw hrw HG
      go_upto_region 8 with fail
      have hst := HS9.out
      have hx := hst.x
      have hz := hst.z
      refine wp_region_lit ?_
      refine wpList_load_row rfl 114 (.tmp 3) rfl X rfl 114 _ (0, 0) _ hx Tryz.underlying114 rfl (by kernel_rfl) ?_
      refine wpList_store_row rfl 114 (.tmp 2) (.tmp 23) rfl w.heap.size _ rfl rfl 114 _ hz (by kernel_rfl) rfl (by simp [Value.oneCell']) ?_
      have HF := Lib.hid (ret_box hz hst.g hst.r hst.hR #[.int .i64 6, .int .i64 0, .int .i64 0, .int .i64 0, .bool false, .int .i64 0, .int .i64 a, .int .i64 b, .string ⟨#[]⟩, .int .i64 0, .slice none 0 0])
      clear hx hz hst
      go_wp2_with fail
      obtain ⟨f1, f2, f3, f4⟩ := HF.out
      refine bodyPost_ret (results_cell_row Tryz.results159 _ _ w.heap.size 114 _ (0, 0) _ rfl f3 Tryz.underlying114 rfl (by kernel_rfl)) rfl ?_
      rw [HQ.out]
      exact ⟨f1, f2, _, rfl, 0, none, 0, rfl, rfl, RdH.nil _ _ _⟩
end Go.Proofs.YtenmkbpdkfhbjaaGreat
namespace Go.Proofs.YtenmkbpdkfhbjaaGreat
open Go Go.RowKit

section
variable {W : World} {Z : Nat} {T : TypeId} {c0 c1 c2 c3 c4 c5 c6 c7 c8 c9 c10 : Value}
theorem box_cells (h : W.heap[Z]? = some (.cells #[c0, c1, c2, c3, c4, c5, c6, c7, c8, c9, c10] T (0, 0))) :
  W.cell? ⟨Z, 0, none⟩ = some c0 ∧ W.cell? ⟨Z, 1, none⟩ = some c1 ∧ W.cell? ⟨Z, 2, none⟩ = some c2 ∧ W.cell? ⟨Z, 3, none⟩ = some c3 ∧ W.cell? ⟨Z, 4, none⟩ = some c4 ∧ W.cell? ⟨Z, 5, none⟩ = some c5 ∧ W.cell? ⟨Z, 6, none⟩ = some c6 ∧ W.cell? ⟨Z, 7, none⟩ = some c7 ∧ W.cell? ⟨Z, 8, none⟩ = some c8 ∧ W.cell? ⟨Z, 9, none⟩ = some c9 ∧ W.cell? ⟨Z, 10, none⟩ = some c10 := by
 simp [World.cell?, h]
theorem box_free (h : W.heap[Z]? = some (.cells #[c0, c1, c2, c3, c4, c5, c6, c7, c8, c9, c10] T (0, 0))) :
  W.frozen? ⟨Z, 0, none⟩ = false ∧ W.frozen? ⟨Z, 1, none⟩ = false ∧ W.frozen? ⟨Z, 2, none⟩ = false ∧ W.frozen? ⟨Z, 3, none⟩ = false ∧ W.frozen? ⟨Z, 4, none⟩ = false ∧ W.frozen? ⟨Z, 5, none⟩ = false ∧ W.frozen? ⟨Z, 6, none⟩ = false ∧ W.frozen? ⟨Z, 7, none⟩ = false ∧ W.frozen? ⟨Z, 8, none⟩ = false ∧ W.frozen? ⟨Z, 9, none⟩ = false ∧ W.frozen? ⟨Z, 10, none⟩ = false := by
 simp [World.frozen?, h]
theorem set_step {W X : World} {Z : Nat} {T : TypeId} {old ds : Array Value} (hX : X = W.setRow Z ds) (h : W.heap[Z]? = some (.cells old T (0, 0))) (i : Nat) (v : Value) : X.setCell ⟨Z, i, none⟩ v = W.setRow Z (ds.setIfInBounds i v) := by
 subst hX
 rw [setCell_eq_setRow _ Z i ds T (0, 0) v (setRow_heap _ _ _ _ _ _ h), setRow_setRow]
theorem set_box (h : W.heap[Z]? = some (.cells #[c0, c1, c2, c3, c4, c5, c6, c7, c8, c9, c10] T (0, 0))) (v0 v1 v2 v3 v4 v5 v6 v7 v8 v9 v10 : Value) :
  (((((((((((W.setCell ⟨Z, 0, none⟩ v0).setCell ⟨Z, 1, none⟩ v1).setCell ⟨Z, 2, none⟩ v2).setCell ⟨Z, 3, none⟩ v3).setCell ⟨Z, 4, none⟩ v4).setCell ⟨Z, 5, none⟩ v5).setCell ⟨Z, 6, none⟩ v6).setCell ⟨Z, 7, none⟩ v7).setCell ⟨Z, 8, none⟩ v8).setCell ⟨Z, 9, none⟩ v9).setCell ⟨Z, 10, none⟩ v10) = W.setRow Z #[v0, v1, v2, v3, v4, v5, v6, v7, v8, v9, v10] := by
 have hs0 : W.setCell ⟨Z, 0, none⟩ v0 = W.setRow Z (#[c0, c1, c2, c3, c4, c5, c6, c7, c8, c9, c10].setIfInBounds 0 v0) := setCell_eq_setRow W Z 0 _ T (0, 0) v0 h
 have hh := (set_step (set_step (set_step (set_step (set_step (set_step (set_step (set_step (set_step (set_step hs0 h 1 v1) h 2 v2) h 3 v3) h 4 v4) h 5 v5) h 6 v6) h 7 v7) h 8 v8) h 9 v9) h 10 v10)
 simp only [List.setIfInBounds_toArray, List.set_cons_succ, List.set_cons_zero] at hh
 exact hh
end
theorem RdH.item {S : List UInt8 → Int → Prop} {w : World} {ok : Nat → Prop} {A : Option Addr} {n c : Nat} {xs : List Cd.Item} (h : RdH (KI S) 114 w ok (.slice A n c) xs) {i : Nat} {x : Cd.Item} (hi : xs[i]? = some x) :
  ∃ b cur z A' c', A = some ⟨b, 0, none⟩ ∧ ok b ∧ w.heap[b]? = some (.cells cur 114 (0, 0)) ∧ (if x.node.kind = 1 then S x.code z else z = x.node.sign) ∧ RdH (KI S) 114 w ok (.slice A' x.kids.length c') x.kids ∧
   cur[i * 11]? = some (.int .i64 x.node.kind) ∧ cur[i * 11 + 1]? = some (.int .i64 x.node.depth) ∧ cur[i * 11 + 2]? = some (.int .i64 z) ∧ cur[i * 11 + 3]? = some (.int .i64 x.node.turn) ∧ cur[i * 11 + 4]? = some (.bool x.node.mirror) ∧ cur[i * 11 + 5]? = some (.int .i64 x.node.state) ∧
   cur[i * 11 + 6]? = some (.int .i64 x.node.lo) ∧ cur[i * 11 + 7]? = some (.int .i64 x.node.hi) ∧ cur[i * 11 + 8]? = some (.string (Cd.bs x.code)) ∧ cur[i * 11 + 9]? = some (.int .i64 x.pos) ∧ cur[i * 11 + 10]? = some (.slice A' x.kids.length c') := by
 obtain ⟨A0, c0, hv, hl, hc, hh⟩ := h
 cases hv
 obtain ⟨b, cur, hA, hb, hcur, hcell⟩ := hh (by have := (List.getElem?_eq_some_iff.1 hi).1; omega)
 obtain ⟨cs, hrd, hcs⟩ := hcell i x hi
 obtain ⟨z, v, rfl, hz, hk⟩ := ki_inv hrd
 obtain ⟨A', c', rfl⟩ := hk.form
 refine ⟨b, cur, z, A', c', hA, hb, hcur, hz, hk, ?_, hcs 1 _ rfl, hcs 2 _ rfl, hcs 3 _ rfl, hcs 4 _ rfl, hcs 5 _ rfl, hcs 6 _ rfl, hcs 7 _ rfl, hcs 8 _ rfl, hcs 9 _ rfl, hcs 10 _ rfl⟩
 have := hcs 0 _ rfl
 simpa [KI] using this
def RetOne (kind : Int) (xs : List Cd.Item) (ok : Nat → Prop) (w : World) (e : Ending) (w' : World) : Prop := ∃ v, e = .returned v ∧ VI S0 w' ok v (Cd.one kind xs) ∧ Below w.heap.size w w'
set_option maxRecDepth 100000 in
set_option maxHeartbeats 8000000 in
theorem one_any (kind : Int) (xs : List Cd.Item) (A : Option Addr) (c : Nat) (ok : Nat → Prop) (w : World) (h : RdH (KI S0) 114 w ok (.slice A xs.length c) xs) (hok : ∀ b, ok b → b < w.heap.size) (hn : kind ≠ 1) (hx0 : 0 < xs.length) (hx : xs.length ≤ 2000000) :
  Calls Tryz.prog 153 #[.int .i64 kind, .slice A xs.length c] w (RetOne kind xs ok w) := by
 obtain ⟨W1, hW1⟩ : ∃ W1, W1 = w.alloc (.cells #[.int .i64 0, .int .i64 0, .int .i64 0, .int .i64 0, .bool false, .int .i64 0, .int .i64 0, .int .i64 0, .string ⟨#[]⟩, .int .i64 0, .slice none 0 0] 114) := ⟨_, rfl⟩
 have hb1 : Below w.heap.size w W1 := by rw [hW1]; exact (Below.refl _ _).alloc (Nat.le_refl _) _
 have hz : W1.heap[w.heap.size]? = some (.cells #[.int .i64 0, .int .i64 0, .int .i64 0, .int .i64 0, .bool false, .int .i64 0, .int .i64 0, .int .i64 0, .string ⟨#[]⟩, .int .i64 0, .slice none 0 0] 114 (0, 0)) := by rw [hW1]; exact heap_alloc_new _ _
 have HW1 := Lib.hid hW1
 have HB1 := Lib.hid hb1
 have HZ := Lib.hid hz
 have HK := Lib.hid h
 have HOK := Lib.hid hok
 obtain ⟨z0, z1, z2, z3, z4, z5, z6, z7, z8, z9, z10⟩ := box_cells hz
 obtain ⟨y0, y1, y2, y3, y4, y5, y6, y7, y8, y9, y10⟩ := box_free hz
 have HEND : Hid (∀ v0 v1 v2 v3 v4 v5 v6 v7 v8 v9 v10, Below w.heap.size w (W1.setRow w.heap.size #[v0, v1, v2, v3, v4, v5, v6, v7, v8, v9, v10])) := Lib.hid fun v0 v1 v2 v3 v4 v5 v6 v7 v8 v9 v10 => by
  rw [← set_box HZ.out]
  exact ((((((((((hb1.setCell (Nat.le_refl _) _).setCell (Nat.le_refl _) _).setCell (Nat.le_refl _) _).setCell (Nat.le_refl _) _).setCell (Nat.le_refl _) _).setCell (Nat.le_refl _) _).setCell (Nat.le_refl _) _).setCell (Nat.le_refl _) _).setCell (Nat.le_refl _) _).setCell (Nat.le_refl _) _).setCell (Nat.le_refl _) _
 clear hW1 hb1 hz h hok
 by_cases h1 : xs.length = 1
 ·have hq : ((xs.length : Int) == 1) = true := by simp [h1]
  obtain ⟨x, hx1⟩ : ∃ x, xs[0]? = some x := ⟨_, List.getElem?_eq_getElem hx0⟩
  obtain ⟨b, cur, z, A', c', rfl, hb, hcur, hsg, hk, g0, g1, g2, g3, g4, g5, g6, g7, g8, g9, g10⟩ := HK.out.item hx1
  have hcur1 := (HB1.out.block b (HOK.out b hb)).trans hcur
  have HX : Hid (Cd.one kind xs = x) := Lib.hid (by
   cases xs with
   | nil => simp at hx0
   | cons y r =>
    cases r with
    | nil => simp at hx1; rw [← hx1]; rfl
    | cons _ _ => simp at h1)
  have HSG := Lib.hid hsg
  have HKK := Lib.hid hk
  simp only [Nat.zero_mul, Nat.zero_add] at g0 g1 g2 g3 g4 g5 g6 g7 g8 g9 g10
  have f0 := (in_box hcur1 0).1.trans g0
  have f1 := (in_box hcur1 1).1.trans g1
  have f2 := (in_box hcur1 2).1.trans g2
  have f3 := (in_box hcur1 3).1.trans g3
  have f4 := (in_box hcur1 4).1.trans g4
  have f5 := (in_box hcur1 5).1.trans g5
  have f6 := (in_box hcur1 6).1.trans g6
  have f7 := (in_box hcur1 7).1.trans g7
  have f8 := (in_box hcur1 8).1.trans g8
  have f9 := (in_box hcur1 9).1.trans g9
  have f10 := (in_box hcur1 10).1.trans g10
  have hl : (0 : Int) < (xs.length : Int) := by omega
  have HBL := Lib.hid (HOK.out b hb)
  clear hcur hcur1 g0 g1 g2 g3 g4 g5 g6 g7 g8 g9 g10 hx1 h1 hsg hk
  go_enter Tryz.func153, Tryz.ntmps153
  go_upto_region 1 with fail
  rw [← HW1.out]
  go_wp2_with fail
  rw [set_box HZ.out]
  refine bodyPost_ret (results_cell_row Tryz.results153 _ _ w.heap.size 114 _ (0, 0) _ rfl (setRow_heap _ _ _ _ _ _ HZ.out) Tryz.underlying114 rfl (by kernel_rfl)) rfl ?_
  refine ⟨_, rfl, ⟨z, A', c', by rw [HX.out]; rfl, by rw [HX.out]; exact HSG.out, by rw [HX.out]; exact HKK.out.keep fun b hb => ⟨hb, (HEND.out _ _ _ _ _ _ _ _ _ _ _).block b (HOK.out b hb)⟩⟩, HEND.out _ _ _ _ _ _ _ _ _ _ _⟩
 ·have hq : ((xs.length : Int) == 1) = false := by simpa using (show ¬ (xs.length : Int) = 1 by omega)
  have HX : Hid (Cd.one kind xs = .mk (Cd.kindN kind) [] 0 xs) := Lib.hid (by
   cases xs with
   | nil => rfl
   | cons y r =>
    cases r with
    | nil => simp at h1
    | cons _ _ => rfl)
  clear h1
  go_enter Tryz.func153, Tryz.ntmps153
  go_upto_region 1 with fail
  rw [← HW1.out]
  go_wp2_with fail
  rw [set_box HZ.out]
  refine bodyPost_ret (results_cell_row Tryz.results153 _ _ w.heap.size 114 _ (0, 0) _ rfl (setRow_heap _ _ _ _ _ _ HZ.out) Tryz.underlying114 rfl (by kernel_rfl)) rfl ?_
  refine ⟨_, rfl, ⟨0, A, c, by rw [HX.out]; rfl, by rw [HX.out]; exact (if_neg hn).mpr rfl, by rw [HX.out]; exact HK.out.keep fun b hb => ⟨hb, (HEND.out _ _ _ _ _ _ _ _ _ _ _).block b (HOK.out b hb)⟩⟩, HEND.out _ _ _ _ _ _ _ _ _ _ _⟩
end Go.Proofs.YtenmkbpdkfhbjaaGreat
namespace Go.Proofs.YtenmkbpdkfhbjaaGreat
open Go Go.RowKit

abbrev Row11 := { cs : List Value // cs.length = 11 ∧ ∀ u ∈ cs, u.oneCell' = true }
def enc11 (q : Row11) : List Value := q.1
theorem len_11 (q : Row11) : (enc11 q).length = 11 := q.2.1
theorem one_11 (q : Row11) : ∀ u ∈ enc11 q, u.oneCell' = true := q.2.2
theorem OwnG.made {α : Type} {K : RowK α} {e : TypeId} {w : World} {base : Nat} {cs : List Value} {a : α} (hb : base ≤ w.heap.size) (hl : cs.length = K.size) (h : K.rd w (fun b => b < w.heap.size ∧ base ≤ b) cs a) :
  OwnG K e (w.alloc (.cells cs.toArray e)) base (.slice (some ⟨w.heap.size, 0, none⟩) 1 1) [a] := by
 refine ⟨cs, ⟨by simp [hl], .inr ⟨w.heap.size, 1, cs.toArray, rfl, hb, heap_alloc_new _ _, Nat.le_refl _, by decide, by simp [hl], by rw [List.length_singleton, Nat.one_mul, ← hl]; simp⟩⟩, ?_⟩
 have hk : ∀ b, (b < w.heap.size ∧ base ≤ b) → (b < (w.alloc (.cells cs.toArray e)).heap.size ∧ (Value.slice (some ⟨w.heap.size, 0, none⟩) 1 1).ownBlock ≠ some b ∧ base ≤ b) ∧ (w.alloc (.cells cs.toArray e)).heap[b]? = w.heap[b]? := fun b hb' =>
  ⟨⟨by simp; omega, by simp [Value.ownBlock]; omega, hb'.2⟩, Below.heap_alloc _ _ _ hb'.1⟩
 have := grows.cons (K := K) (w := w.alloc (.cells cs.toArray e)) (K.keep hk h) grows.nil
 simpa using this
section
variable {S : List UInt8 → Int → Prop} {w : World} {P : Program}
theorem wp_append_item {o : Oper} {a : Act} {K : Act → World → Prop} {Q : Exit → Act → World → Prop} (s x : Operand)
  (ho : o.op = .call { callee := .builtin .append, args := #[s, x], argTypes := #[75, 75] })
  (base : Nat) (v : Value) (xs : List Cd.Item) (y : Cd.Item) (hs : a.eval s = v) (hown : OwnG (KI S) 114 w base v xs) (b c : Nat) (cs : List Value) (hx : a.eval x = .slice (some ⟨b, 0, none⟩) 1 c) (hc : 1 ≤ c ∧ c ≤ 9223372036854775807)
  (hb : w.heap[b]? = some (.cells cs.toArray 114 (0, 0))) (h1 : ∀ u ∈ cs, u.oneCell' = true) (hrd : (KI S).rd w (fun b => b < w.heap.size ∧ v.ownBlock ≠ some b ∧ base ≤ b) cs y) (hn : xs.length ≤ 2000000) (hbase : base ≤ w.heap.size)
  (h : ∀ v' w', OwnG (KI S) 114 w' base v' (xs ++ [y]) → w.grownBy w' v.ownBlock → K (a.put o.dst v') w') : o.wp Tryz.prog a w K Q := by
 obtain ⟨i0, hi0, hz0, hs0, hb0⟩ := info_parts info_item
 obtain ⟨cells, hown, hg⟩ := hown
 have hl : cs.length = 11 := (KI S).len hrd
 refine wp_append_rd (enc := enc11) s x _ ho base 114 i0 _ 11 112 len_11 one_11 Tryz.underlying75 hi0 hz0 hs0 hb0 rfl (by decide) v xs.length cells hs hown w.heap.size _ [⟨cs, hl, h1⟩] hx ?_ (by simp [maxLen]; omega) (by simp; omega) hbase ?_
 ·refine ⟨_, c, rfl, hc.1, hc.2, fun _ => ⟨b, 0, rfl, lt_of_some hb, fun i q hi j u hj => ?_⟩⟩
  cases i with
  | zero =>
   simp at hi
   subst hi
   rw [(in_box hb _).1]
   simpa [enc11] using hj
  | succ i => simp at hi
 ·intro v' w' hown' hgw hat
  refine h v' w' (OwnG.snoc hg hrd (by have := hown'; simp only [List.length_singleton, List.flatMap_cons, List.flatMap_nil, List.append_nil] at this; exact this) hgw ?_) hgw
  rcases hat with e | e
  ·exact .inl e
  ·exact .inr ⟨_, e, Nat.le_refl _⟩
theorem wpList_append_item {ops : Array Oper} {rest : List Oper} {o : Oper} {a : Act} {Q : Exit → Act → World → Prop} (hgd : o.guard = none) (s x : Operand)
  (ho : o.op = .call { callee := .builtin .append, args := #[s, x], argTypes := #[75, 75] })
  (base : Nat) (v : Value) (xs : List Cd.Item) (y : Cd.Item) (hs : a.eval s = v) (hown : OwnG (KI S) 114 w base v xs) (b c : Nat) (cs : List Value) (hx : a.eval x = .slice (some ⟨b, 0, none⟩) 1 c) (hc : 1 ≤ c ∧ c ≤ 9223372036854775807)
  (hb : w.heap[b]? = some (.cells cs.toArray 114 (0, 0))) (h1 : ∀ u ∈ cs, u.oneCell' = true) (hrd : (KI S).rd w (fun b => b < w.heap.size ∧ v.ownBlock ≠ some b ∧ base ≤ b) cs y) (hn : xs.length ≤ 2000000) (hbase : base ≤ w.heap.size)
  (h : ∀ v' w', OwnG (KI S) 114 w' base v' (xs ++ [y]) → w.grownBy w' v.ownBlock → wpList Tryz.prog ops Q rest (a.put o.dst v') w') : wpList Tryz.prog ops Q (o :: rest) a w :=
 wpList_plain hgd fun _ hK => wp_append_item s x ho base v xs y hs hown b c cs hx hc hb h1 hrd hn hbase fun v' w' q1 q2 => hK _ _ (h v' w' q1 q2)
theorem VI.cells {w : World} {ok : Nat → Prop} {v : Value} {x : Cd.Item} (h : VI S w ok v x) : ∃ cs : List Value, v = .agg cs.toArray ∧ (KI S).rd w ok cs x ∧ cs.length = 11 ∧ ∀ u ∈ cs, u.oneCell' = true := by
 obtain ⟨z, A, c, rfl, hz, hk⟩ := h
 refine ⟨_, rfl, ki_mk hz hk, rfl, ?_⟩
 intro u hu
 simp at hu
 rcases hu with rfl | rfl | rfl | rfl | rfl | rfl | rfl | rfl | rfl | rfl | rfl <;> rfl
end
end Go.Proofs.YtenmkbpdkfhbjaaGreat
