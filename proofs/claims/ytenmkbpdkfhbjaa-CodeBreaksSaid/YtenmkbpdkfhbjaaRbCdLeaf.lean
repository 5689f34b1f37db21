/- The program's reader: a leaf. -/
import Derived.Test.YtenmkbpdkfhbjaaRbCdGlyph
namespace Go.Proofs.Ytenmkbpdkfhbjaa
open Go Go.RowKit

/-- the start of a part: the result's box alone -/
structure St0 (w : World) (R : Nat) (cv : Value) (s : ByteArray) (j : Nat) (W : World) : Prop where
  g : w.grownBy W (some R)
  r : RdrIs R cv s j W
  z : W.heap[w.heap.size]? = some (.cells #[.int .i64 0, .int .i64 0, .int .i64 0, .int .i64 0, .bool false, .int .i64 0, .int .i64 0, .int .i64 0, .string ⟨#[]⟩, .int .i64 0, .slice none 0 0] 76 (0, 0))
  hR : R < w.heap.size
theorem St0.call {w W W' : World} {R : Nat} {cv : Value} {s : ByteArray} {j j' : Nat} (h : St0 w R cv s j W) (hg : W.grownBy W' (some R)) (hr : RdrIs R cv s j' W') : St0 w R cv s j' W' :=
  ⟨grown_trans h.g hg, hr, (hg.block _ (lt_of_some h.z) (fun e => by have := h.hR; cases e; omega)).trans h.z, h.hR⟩
theorem St0.below {w W W' : World} {R : Nat} {cv : Value} {s : ByteArray} {j : Nat} (h : St0 w R cv s j W) (hb : Below W.heap.size W W') : St0 w R cv s j W' :=
  h.call (grown_of_below hb) (h.r.keep (hb.block R h.r.at.2.2.2.2))
theorem St0.start {w : World} {R : Nat} {cv : Value} {s : ByteArray} {j : Nat} (h : RdrIs R cv s j w) : St0 w R cv s j (w.alloc (.cells #[.int .i64 0, .int .i64 0, .int .i64 0, .int .i64 0, .bool false, .int .i64 0, .int .i64 0, .int .i64 0, .string ⟨#[]⟩, .int .i64 0, .slice none 0 0] 76)) := by
  have hb : Below w.heap.size w (w.alloc (.cells #[.int .i64 0, .int .i64 0, .int .i64 0, .int .i64 0, .bool false, .int .i64 0, .int .i64 0, .int .i64 0, .string ⟨#[]⟩, .int .i64 0, .slice none 0 0] 76)) := (Below.refl _ _).alloc (Nat.le_refl _) _
  exact ⟨grown_of_below hb, h.keep (hb.block R h.at.2.2.2.2), heap_alloc_new _ _, h.at.2.2.2.2⟩
/-- the cells of an item -/
def rowI (n : Tx.Node) (z : Int) (c : ByteArray) (p : Int) (v : Value) : Array Value := #[.int .i64 n.kind, .int .i64 n.depth, .int .i64 z, .int .i64 n.turn, .bool n.mirror, .int .i64 n.state, .int .i64 n.lo, .int .i64 n.hi, .string c, .int .i64 p, v]
/-- a box of one's own -/
theorem St0.box {w W : World} {R : Nat} {cv : Value} {s : ByteArray} {j : Nat} (h : St0 w R cv s j W) (cs : Array Value) : St w R cv s j W.heap.size cs (W.alloc (.cells cs 76)) := by
  have h1 := h.below ((Below.refl _ _).alloc (Nat.le_refl W.heap.size) (.cells cs 76))
  exact ⟨h1.g, h1.r, h1.z, heap_alloc_new _ _, h1.hR, lt_of_some h.z⟩

set_option maxRecDepth 100000 in
set_option maxHeartbeats 8000000 in
theorem leaf_any (R : Nat) (s : ByteArray) (k : Nat) (w : World) (h : RdrIs R (.iface 58 (.agg #[])) s k w) (hs : s.size ≤ 1000000) :
    Calls Try.prog 74 #[.pointer (some ⟨R, 0, none⟩)] w (RetP R (.iface 58 (.agg #[])) s (VI S0) (Cd.leafG s.data.toList k) w) := by
  have HGL := Lib.hid (fun (j : Nat) (W : World) (hr : RdrIs R (.iface 58 (.agg #[])) s j W) => glyph_any R true s j W hr hs)
  have HDG := Lib.hid (fun (j : Nat) (W : World) (hr : RdrIs R (.iface 58 (.agg #[])) s j W) => digit_any R (.iface 58 (.agg #[])) s j 48 57 W hr hs (by decide))
  have HMU := Lib.hid (fun (j : Nat) (c : UInt8) (W : World) (hr : RdrIs R (.iface 58 (.agg #[])) s j W) => must_any R (.iface 58 (.agg #[])) s j c W hr hs)
  have HIS := Lib.hid (fun (j : Nat) (c : UInt8) (W : World) (hr : RdrIs R (.iface 58 (.agg #[])) s j W) => is_any R (.iface 58 (.agg #[])) s j c W hr hs)
  obtain ⟨W1, hW1⟩ : ∃ W1, W1 = w.alloc (.cells #[.int .i64 0, .int .i64 0, .int .i64 0, .int .i64 0, .bool false, .int .i64 0, .int .i64 0, .int .i64 0, .string ⟨#[]⟩, .int .i64 0, .slice none 0 0] 76) := ⟨_, rfl⟩
  have HS1 : Hid (St0 w R (.iface 58 (.agg #[])) s k W1) := Lib.hid (by rw [hW1]; exact St0.start h)
  have HW1 := Lib.hid hW1
  clear h hW1
  have HQ : Hid (Cd.leafG s.data.toList k = if Cd.sees s.data.toList k 123 = true then
      (Cd.digitG s.data.toList 48 57 (k + 1)).bind fun a k1 => (Cd.must s.data.toList k1 45).bind fun _ k2 => (Cd.digitG s.data.toList 48 57 k2).bind fun b k3 => (Cd.must s.data.toList k3 125).bind fun _ k4 => .ok (.mk (Cd.gapN a b) [] 0 []) k4
    else Cd.glyphG s.data.toList true k) := Lib.hid rfl
  go_enter Try.func74, Try.ntmps74
  go_upto_region 1 with fail
  rw [← HW1.out]
  go_wp2_with fail
  refine (HIS.out k 123 W1 HS1.out.r).mono ?_
  rintro e w2 ⟨he, hg2, hr2, -⟩
  cases hsee : Cd.sees s.data.toList k 123
  · rw [hsee] at hr2 HQ he
    subst he
    rw [if_neg Bool.false_ne_true] at hr2 HQ
    have HS2 := Lib.hid (HS1.out.call hg2 hr2)
    clear hsee hg2 hr2
    have HG := Lib.hid (HGL.out k w2 HS2.out.r)
    unfold RetP at HG
    cases hgl : Cd.glyphG s.data.toList true k with
    | bad jb =>
      rw [hgl] at HG HQ
      clear hgl
      go_wp2_with fail
      refine HG.out.mono ?_
      rintro e w3 ⟨hgw, rfl⟩
      rw [HQ.out]
      exact ⟨rfl, grown_trans HS2.out.g hgw, rfl⟩
    | ok x j =>
      rw [hgl] at HG HQ
      clear hgl
      go_wp2_with fail
      refine HG.out.mono ?_
      rintro e w3 ⟨hgw, hrw, v, rfl, z, A, c, rfl, hsg, hk⟩
      have HS3 := Lib.hid (HS2.out.call hgw hrw)
      have HSG := Lib.hid hsg
      have HK := Lib.hid hk
      clear hgw hrw hsg hk HG
      have hz := HS3.out.z
      have HF := Lib.hid (ret_box hz HS3.out.g HS3.out.r HS3.out.hR (rowI x.node z (Cd.bs x.code) x.pos (.slice A x.kids.length c)))
      unfold aggI
      dsimp only
      apply_assumption
      refine wpList_store_row rfl 76 (.tmp 2) (.tmp 8) rfl w.heap.size (rowI x.node z (Cd.bs x.code) x.pos (.slice A x.kids.length c)) rfl rfl 76 _ hz (by kernel_rfl) rfl (by simp [rowI, Value.oneCell']) ?_
      clear hz
      go_wp2_with fail
      obtain ⟨f1, f2, f3, f4⟩ := HF.out
      refine bodyPost_ret (results_cell_row Try.results74 _ _ w.heap.size 76 _ (0, 0) _ rfl f3 Try.underlying76 rfl (by kernel_rfl)) rfl ?_
      rw [HQ.out]
      have hl := HS2.out.g.size
      exact ⟨f1, f2, _, rfl, z, A, c, rfl, HSG.out, HK.out.keep fun b hb => ⟨⟨by omega, by rw [setRow_size]; exact hb.2⟩, f4 b (by have := lt_of_some HS2.out.z; omega)⟩⟩
  · rw [hsee] at hr2 HQ he
    subst he
    rw [if_pos rfl] at hr2 HQ
    have HS2 := Lib.hid (HS1.out.call hg2 hr2)
    clear hsee hg2 hr2
    go_upto_region 4 with fail
    have HS3 := Lib.hid (HS2.out.box #[.int .i64 6, .int .i64 0, .int .i64 0, .int .i64 0, .bool false, .int .i64 0, .int .i64 0, .int .i64 0, .string ⟨#[]⟩, .int .i64 0, .slice none 0 0])
    obtain ⟨X, hX⟩ : ∃ X, X = w2.heap.size := ⟨_, rfl⟩
    rw [← hX] at HS3 ⊢
    obtain ⟨w3, hw3⟩ : ∃ w3, w3 = w2.alloc (.cells #[.int .i64 6, .int .i64 0, .int .i64 0, .int .i64 0, .bool false, .int .i64 0, .int .i64 0, .int .i64 0, .string ⟨#[]⟩, .int .i64 0, .slice none 0 0] 76) := ⟨_, rfl⟩
    rw [← hw3] at HS3 ⊢
    clear hX hw3
    have HG := Lib.hid (HDG.out (k + 1) w3 HS3.out.r)
    unfold RetP at HG
    cases hgl : (Cd.digitG s.data.toList 48 57 (k + 1)) with
    | bad jb =>
      rw [hgl] at HG HQ
      clear hgl
      go_wp2_with fail
      refine HG.out.mono ?_
      rintro e w4 ⟨hgw, rfl⟩
      rw [HQ.out]
      exact ⟨rfl, grown_trans HS3.out.g hgw, rfl⟩
    | ok a k1 =>
      rw [hgl] at HG HQ
      have hqb := HQ.out
      dsimp only [Cd.R.bind] at hqb
      have HQ := Lib.hid hqb
      clear hgl hqb
      go_wp2_with fail
      refine HG.out.mono ?_
      rintro e w4 ⟨hgw, hrw, _, rfl, rfl⟩
      have HS4 := Lib.hid (HS3.out.call hgw hrw)
      clear hgw hrw HG
      have fx := (in_box HS4.out.x 6).1
      have fy := (in_box HS4.out.x 6).2
      simp at fx
      go_upto_region 5 with fail
      obtain ⟨w5, hw2⟩ : ∃ w5, w5 = w4.setCell ⟨X, 6, none⟩ (.int .i64 a) := ⟨_, rfl⟩
      rw [← hw2]
      have hsx : St w R _ s k1 X #[.int .i64 6, .int .i64 0, .int .i64 0, .int .i64 0, .bool false, .int .i64 0, .int .i64 a, .int .i64 0, .string ⟨#[]⟩, .int .i64 0, .slice none 0 0] _ := HS4.out.set 6 (.int .i64 a)
      rw [← hw2] at hsx
      have HS5 := Lib.hid hsx
      clear hw2 hsx fx fy
      have HG := Lib.hid (HMU.out k1 45 w5 HS5.out.r)
      unfold RetP at HG
      cases hgl : (Cd.must s.data.toList k1 45) with
      | bad jb =>
        rw [hgl] at HG HQ
        clear hgl
        go_wp2_with fail
        refine HG.out.mono ?_
        rintro e w6 ⟨hgw, rfl⟩
        rw [HQ.out]
        exact ⟨rfl, grown_trans HS5.out.g hgw, rfl⟩
      | ok u k2 =>
        rw [hgl] at HG HQ
        have hqb := HQ.out
        dsimp only [Cd.R.bind] at hqb
        have HQ := Lib.hid hqb
        clear hgl hqb
        go_wp2_with fail
        refine HG.out.mono ?_
        rintro e w6 ⟨hgw, hrw, _, rfl, rfl⟩
        have HS6 := Lib.hid (HS5.out.call hgw hrw)
        clear hgw hrw HG
        have HG := Lib.hid (HDG.out k2 w6 HS6.out.r)
        unfold RetP at HG
        cases hgl : (Cd.digitG s.data.toList 48 57 k2) with
        | bad jb =>
          rw [hgl] at HG HQ
          clear hgl
          go_wp2_with fail
          refine HG.out.mono ?_
          rintro e w7 ⟨hgw, rfl⟩
          rw [HQ.out]
          exact ⟨rfl, grown_trans HS6.out.g hgw, rfl⟩
        | ok b k3 =>
          rw [hgl] at HG HQ
          have hqb := HQ.out
          dsimp only [Cd.R.bind] at hqb
          have HQ := Lib.hid hqb
          clear hgl hqb
          go_wp2_with fail
          refine HG.out.mono ?_
          rintro e w7 ⟨hgw, hrw, _, rfl, rfl⟩
          have HS7 := Lib.hid (HS6.out.call hgw hrw)
          clear hgw hrw HG
          have fx := (in_box HS7.out.x 7).1
          have fy := (in_box HS7.out.x 7).2
          simp at fx
          go_upto_region 7 with fail
          obtain ⟨w8, hw2⟩ : ∃ w8, w8 = w7.setCell ⟨X, 7, none⟩ (.int .i64 b) := ⟨_, rfl⟩
          rw [← hw2]
          have hsx : St w R _ s k3 X #[.int .i64 6, .int .i64 0, .int .i64 0, .int .i64 0, .bool false, .int .i64 0, .int .i64 a, .int .i64 b, .string ⟨#[]⟩, .int .i64 0, .slice none 0 0] _ := HS7.out.set 7 (.int .i64 b)
          rw [← hw2] at hsx
          have HS8 := Lib.hid hsx
          clear hw2 hsx fx fy
          have HG := Lib.hid (HMU.out k3 125 w8 HS8.out.r)
          unfold RetP at HG
          cases hgl : (Cd.must s.data.toList k3 125) with
          | bad jb =>
            rw [hgl] at HG HQ
            clear hgl
            go_wp2_with fail
            refine HG.out.mono ?_
            rintro e w9 ⟨hgw, rfl⟩
            rw [HQ.out]
            exact ⟨rfl, grown_trans HS8.out.g hgw, rfl⟩
          | ok u2 k4 =>
            rw [hgl] at HG HQ
            have hqb := HQ.out
            dsimp only [Cd.R.bind] at hqb
            have HQ := Lib.hid hqb
            clear hgl hqb
            go_wp2_with fail
            refine HG.out.mono ?_
            rintro e w9 ⟨hgw, hrw, _, rfl, rfl⟩
            have HS9 := Lib.hid (HS8.out.call hgw hrw)
            clear hgw hrw HG
            go_upto_region 8 with fail
            have hst := HS9.out
            have hx := hst.x
            have hz := hst.z
            refine wp_region_lit ?_
            refine wpList_load_row rfl 76 (.tmp 3) rfl X rfl 76 _ (0, 0) _ hx Try.underlying76 rfl (by kernel_rfl) ?_
            refine wpList_store_row rfl 76 (.tmp 2) (.tmp 23) rfl w.heap.size _ rfl rfl 76 _ hz (by kernel_rfl) rfl (by simp [Value.oneCell']) ?_
            have HF := Lib.hid (ret_box hz hst.g hst.r hst.hR #[.int .i64 6, .int .i64 0, .int .i64 0, .int .i64 0, .bool false, .int .i64 0, .int .i64 a, .int .i64 b, .string ⟨#[]⟩, .int .i64 0, .slice none 0 0])
            clear hx hz hst
            go_wp2_with fail
            obtain ⟨f1, f2, f3, f4⟩ := HF.out
            refine bodyPost_ret (results_cell_row Try.results74 _ _ w.heap.size 76 _ (0, 0) _ rfl f3 Try.underlying76 rfl (by kernel_rfl)) rfl ?_
            rw [HQ.out]
            exact ⟨f1, f2, _, rfl, 0, none, 0, rfl, rfl, RdH.nil _ _ _⟩
end Go.Proofs.Ytenmkbpdkfhbjaa
