/- The program's reader: an item of the tree code. -/
import Derived.Test.YtenmkbpdkfhbjaaRbCdRWord
namespace Go.Proofs.Ytenmkbpdkfhbjaa
open Go Go.RowKit
/-- the cells of a node with kids -/
def tcells (kind : Int) (kv : Value) : Array Value := #[.int .i64 kind, .int .i64 0, .int .i64 0, .int .i64 0, .bool false, .int .i64 0, .int .i64 0, .int .i64 0, .string ⟨#[]⟩, .int .i64 0, kv]
set_option maxRecDepth 100000 in
set_option maxHeartbeats 16000000 in
theorem tree_step (R : Nat) (s : ByteArray) (f : Nat) (k : Nat) (w : World) (h : RdrIs R (.iface 59 (.agg #[])) s k w) (hs : s.size ≤ 1000000)
    (ih : ∀ (j : Nat) (W : World), k + 1 ≤ j → RdrIs R (.iface 59 (.agg #[])) s j W → Calls Try.prog 95 #[.pointer (some ⟨R, 0, none⟩)] W (RetP R (.iface 59 (.agg #[])) s (VI S0) (Cd.treeG s.data.toList f j) W)) :
    Calls Try.prog 95 #[.pointer (some ⟨R, 0, none⟩)] w (RetP R (.iface 59 (.agg #[])) s (VI S0) (Cd.treeG s.data.toList (f + 1) k) w) := by
  have HIS := Lib.hid (fun (j : Nat) (c : UInt8) (W : World) (hr : RdrIs R (.iface 59 (.agg #[])) s j W) => is_any R (.iface 59 (.agg #[])) s j c W hr hs)
  have HMU := Lib.hid (fun (j : Nat) (c : UInt8) (W : World) (hr : RdrIs R (.iface 59 (.agg #[])) s j W) => must_any R (.iface 59 (.agg #[])) s j c W hr hs)
  have HGL : Hid (∀ (j : Nat) (W : World), RdrIs R (.iface 59 (.agg #[])) s j W → Calls Try.prog 76 #[.pointer (some ⟨R, 0, none⟩)] W (RetP R (.iface 59 (.agg #[])) s (VI S0) (Cd.glyphG s.data.toList false j) W)) := Lib.hid (fun j W hr => glyph_any R false s j W hr hs)
  have HWD := Lib.hid (fun (j : Nat) (W : World) (hr : RdrIs R (.iface 59 (.agg #[])) s j W) => rword_any R (.iface 59 (.agg #[])) s j W hr hs)
  have HRD := Lib.hid (fun (j : Nat) (W : World) (hj : k + 1 ≤ j) (hr : RdrIs R (.iface 59 (.agg #[])) s j W) => tread_any R (.iface 59 (.agg #[])) s (Cd.treeG s.data.toList f) j W hr hs (fun i U hi => ih i U (Nat.le_trans hj hi)) (Cd.tree_mono f))
  have HQ : Hid (Cd.treeG s.data.toList (f + 1) k = if Cd.sees s.data.toList k 63 = true then
      .ok (.mk (Cd.gapN (((s.data.toList.drop k).takeWhile fun c => decide (c = 63)).length : Nat) (((s.data.toList.drop k).takeWhile fun c => decide (c = 63)).length : Nat)) [] 0 []) (k + ((s.data.toList.drop k).takeWhile fun c => decide (c = 63)).length)
    else if Cd.sees s.data.toList k 40 = true then (Cd.wordG s.data.toList (k + 1)).bind fun q k1 => (Cd.must s.data.toList k1 32).bind fun _ k2 => (Cd.sepG s.data.toList (Cd.treeG s.data.toList f) 32 (Cd.N s.data.toList) k2).bind fun xs k3 => (Cd.must s.data.toList k3 41).bind fun _ k4 => .ok (.mk (Cd.kindN q) [] 0 xs) k4
    else Cd.glyphG s.data.toList false k) := Lib.hid rfl
  have HRN := Lib.hid (fun (n : Nat) => Cd.run_more (s := s.data.toList) (k := k) (n := n))
  clear ih
  obtain ⟨W1, hW1⟩ : ∃ W1, W1 = w.alloc (.cells #[.int .i64 0, .int .i64 0, .int .i64 0, .int .i64 0, .bool false, .int .i64 0, .int .i64 0, .int .i64 0, .string ⟨#[]⟩, .int .i64 0, .slice none 0 0] 76) := ⟨_, rfl⟩
  have HS1 : Hid (St0 w R (.iface 59 (.agg #[])) s k W1) := Lib.hid (by rw [hW1]; exact St0.start h)
  have HW1 := Lib.hid hW1
  clear h hW1
  go_enter Try.func95, Try.ntmps95
  go_upto_region 1 with fail
  rw [← HW1.out]
  go_wp2_with fail
  refine (HIS.out k 63 W1 HS1.out.r).mono ?_
  rintro e w2 ⟨he, hg2, hr2, -⟩
  cases hsee : Cd.sees s.data.toList k 63
  · rw [hsee] at hr2 HQ he
    subst he
    rw [if_neg Bool.false_ne_true] at hr2 HQ
    have HS2 := Lib.hid (HS1.out.call hg2 hr2)
    clear hsee hg2 hr2
    go_wp2_with fail
    refine (HIS.out k 40 w2 HS2.out.r).mono ?_
    rintro e w3 ⟨he, hg3, hr3, -⟩
    cases hsee : Cd.sees s.data.toList k 40
    · rw [hsee] at hr3 HQ he
      subst he
      rw [if_neg Bool.false_ne_true] at hr3 HQ
      have HS3 := Lib.hid (HS2.out.call hg3 hr3)
      clear hsee hg3 hr3
      have HG := Lib.hid (HGL.out k w3 HS3.out.r)
      unfold RetP at HG
      cases hgl : Cd.glyphG s.data.toList false k with
      | bad jb =>
        rw [hgl] at HG HQ
        clear hgl
        go_wp2_with fail
        refine HG.out.mono ?_
        rintro e w4 ⟨hgw, rfl⟩
        rw [HQ.out]
        exact ⟨rfl, grown_trans HS3.out.g hgw, rfl⟩
      | ok x j =>
        rw [hgl] at HG HQ
        clear hgl
        go_wp2_with fail
        refine HG.out.mono ?_
        rintro e w4 ⟨hgw, hrw, v, rfl, z, A, c, rfl, hsg, hk⟩
        have HS4 := Lib.hid (HS3.out.call hgw hrw)
        have hz4 := HS4.out.z
        obtain ⟨z0, z1, z2, z3, z4, z5, z6, z7, z8, z9, z10⟩ := box_cells hz4
        obtain ⟨y0, y1, y2, y3, y4, y5, y6, y7, y8, y9, y10⟩ := box_free hz4
        have HZ4 := Lib.hid hz4
        have HSG := Lib.hid hsg
        have HK := Lib.hid hk
        clear hgw hrw hsg hk HG hz4
        unfold aggI
        go_wp2_with fail
        rw [set_box HZ4.out]
        obtain ⟨f1, f2, f3, f4⟩ := ret_box HZ4.out HS4.out.g HS4.out.r HS4.out.hR (rowI x.node z (Cd.bs x.code) x.pos (.slice A x.kids.length c))
        refine bodyPost_ret (results_cell_row Try.results95 _ _ w.heap.size 76 _ (0, 0) _ rfl f3 Try.underlying76 rfl (by kernel_rfl)) rfl ?_
        rw [HQ.out]
        have hlz := lt_of_some HS3.out.z
        exact ⟨f1, f2, _, rfl, z, A, c, rfl, HSG.out, HK.out.keep fun b hb => ⟨⟨by have h1 : w3.heap.size ≤ b := hb.1; omega, by rw [setRow_size]; exact hb.2⟩, f4 b (by have h1 : w3.heap.size ≤ b := hb.1; omega)⟩⟩
    · rw [hsee] at hr3 HQ he
      subst he
      rw [if_pos rfl] at hr3 HQ
      have HS3 := Lib.hid (HS2.out.call hg3 hr3)
      clear hsee hg3 hr3
      have HG := Lib.hid (HWD.out (k + 1) w3 HS3.out.r)
      have hwm := Cd.word_mono (s := s.data.toList) (k + 1)
      unfold RetP at HG
      cases hgl : Cd.wordG s.data.toList (k + 1) with
      | bad jb =>
        rw [hgl] at HG HQ
        clear hgl hwm
        go_wp2_with fail
        refine HG.out.mono ?_
        rintro e w4 ⟨hgw, rfl⟩
        rw [HQ.out]
        exact ⟨rfl, grown_trans HS3.out.g hgw, rfl⟩
      | ok q k1 =>
        rw [hgl] at HG HQ hwm
        have hk1 : k + 1 ≤ k1 := hwm
        have HQK : Hid (q ≠ 1) := Lib.hid (by
          unfold Cd.wordG at hgl
          have := kind_range (s.data.toList[k + 1]?)
          simp only at hgl
          split at hgl
          · cases hgl
          · split at hgl
            · cases hgl; omega
            · cases hgl)
        clear hgl hwm
        dsimp only [Cd.R.bind] at HQ
        go_wp2_with fail
        refine HG.out.mono ?_
        rintro e w4 ⟨hgw, hrw, _, rfl, rfl⟩
        have HS4 := Lib.hid (HS3.out.call hgw hrw)
        clear hgw hrw HG
        go_upto_region 9 with fail
        obtain ⟨X, hX⟩ : ∃ X, X = w4.heap.size := ⟨_, rfl⟩
        obtain ⟨w5, hw5⟩ : ∃ w5, w5 = w4.alloc (.cells (tcells q (.slice none 0 0)) 76) := ⟨_, rfl⟩
        have HS5 : Hid (St w R (.iface 59 (.agg #[])) s k1 X (tcells q (.slice none 0 0)) w5) := Lib.hid (by rw [hw5, hX]; exact HS4.out.box _)
        unfold tcells at hw5
        rw [← hX, ← hw5]
        have HM := Lib.hid (HMU.out k1 32 w5 HS5.out.r)
        have hmm := Cd.must_mono (s := s.data.toList) k1 32
        unfold RetP at HM
        clear hX hw5
        cases hmu : Cd.must s.data.toList k1 32 with
        | bad jb =>
          rw [hmu] at HM HQ
          clear hmu hmm
          go_wp2_with fail
          refine HM.out.mono ?_
          rintro e w6 ⟨hgw, rfl⟩
          rw [HQ.out]
          exact ⟨rfl, grown_trans HS5.out.g hgw, rfl⟩
        | ok u k2 =>
          rw [hmu] at HM HQ hmm
          have hk2 : k1 ≤ k2 := hmm
          clear hmu hmm
          go_wp2_with fail
          refine HM.out.mono ?_
          rintro e w6 ⟨hgw, hrw, _, rfl, rfl⟩
          have HS6 := Lib.hid (HS5.out.call hgw hrw)
          clear hgw hrw HM
          obtain ⟨c0, c1, c2, f2, hltr⟩ := HS6.out.r.at
          have hme : ∀ W, (method 265 59 (.agg #[]) "ostracon/code.read").run Try.prog W = .ok (93, .agg #[]) W := fun _ => by kernel_rfl
          have HL := Lib.hid (HRD.out k2 w6 (by omega) HS6.out.r)
          have hlm : k2 ≤ (Cd.sepG s.data.toList (Cd.treeG s.data.toList f) 32 (Cd.N s.data.toList) k2).pos := Cd.sep_mono (Cd.tree_mono f) _ _
          unfold RetP at HL
          cases hli : Cd.sepG s.data.toList (Cd.treeG s.data.toList f) 32 (Cd.N s.data.toList) k2 with
          | bad jb =>
            rw [hli] at HL HQ
            clear hli hlm
            go_wp2_with fail
            refine HL.out.mono ?_
            rintro e w7 ⟨hgw, rfl⟩
            rw [HQ.out]
            exact ⟨rfl, grown_trans HS6.out.g hgw, rfl⟩
          | ok xs k3 =>
            rw [hli] at HL HQ hlm
            clear hli
            go_wp2_with fail
            refine HL.out.mono ?_
            rintro e w7 ⟨hgw, hrw, _, rfl, A, c, rfl, hk⟩
            have HS7 := Lib.hid (HS6.out.call hgw hrw)
            have HK7 := Lib.hid hk
            have HZ6 : Hid (w.heap.size < w6.heap.size ∧ X < w6.heap.size) := Lib.hid ⟨lt_of_some HS6.out.z, lt_of_some HS6.out.x⟩
            have x10 := (in_box HS7.out.x 10).1
            have y10 := (in_box HS7.out.x 10).2
            simp [tcells] at x10
            clear hgw hrw hk HL hme c0 c1 c2 f2 hlm
            go_upto_region 11 with fail
            obtain ⟨w8, hw8⟩ : ∃ w8, w8 = w7.setCell ⟨X, 10, none⟩ (.slice A xs.length c) := ⟨_, rfl⟩
            rw [← hw8]
            have HS8 : Hid (St w R (.iface 59 (.agg #[])) s k3 X (tcells q (.slice A xs.length c)) w8) := Lib.hid (by rw [hw8]; exact HS7.out.set 10 _)
            have HK8 : Hid (RdH (KI S0) 76 w8 (fun b => w.heap.size < b ∧ b < w8.heap.size) (.slice A xs.length c) xs) := Lib.hid (HK7.out.keep fun b hb => by
              have h1 : w6.heap.size ≤ b := hb.1
              have h2 := HZ6.out
              rw [hw8]
              exact ⟨⟨by omega, by rw [size_set]; exact hb.2⟩, Below.heap_setCell _ ⟨X, 10, none⟩ _ _ (by show b ≠ X; omega)⟩)
            have HM := Lib.hid (HMU.out k3 41 w8 HS8.out.r)
            unfold RetP at HM
            clear hw8 x10 y10
            cases hmu : Cd.must s.data.toList k3 41 with
            | bad jb =>
              rw [hmu] at HM HQ
              clear hmu
              go_wp2_with fail
              refine HM.out.mono ?_
              rintro e w9 ⟨hgw, rfl⟩
              rw [HQ.out]
              exact ⟨rfl, grown_trans HS8.out.g hgw, rfl⟩
            | ok u2 k4 =>
              rw [hmu] at HM HQ
              clear hmu
              go_wp2_with fail
              refine HM.out.mono ?_
              rintro e w9 ⟨hgw, hrw, _, rfl, rfl⟩
              have HS9 := Lib.hid (HS8.out.call hgw hrw)
              have HK9 := Lib.hid (HK8.out.keep (w' := w9) (ok' := fun b => w.heap.size < b ∧ b < w9.heap.size) fun b hb => ⟨⟨hb.1, Nat.lt_of_lt_of_le hb.2 hgw.size⟩, hgw.block b hb.2 (fun e => by cases e; have := HS8.out.hR; omega)⟩)
              clear hgw hrw HM
              have hx9 := HS9.out.x
              have hz9 := HS9.out.z
              unfold tcells at hx9
              obtain ⟨g0, g1, g2, g3, g4, g5, g6, g7, g8, g9, g10⟩ := box_cells hx9
              obtain ⟨z0, z1, z2, z3, z4, z5, z6, z7, z8, z9, z10⟩ := box_cells hz9
              obtain ⟨y0, y1, y2, y3, y4, y5, y6, y7, y8, y9, y10⟩ := box_free hz9
              have HZ9 := Lib.hid hz9
              clear hx9 hz9
              go_wp2_with fail
              rw [set_box HZ9.out]
              obtain ⟨f1, f2, f3, f4⟩ := ret_box HZ9.out HS9.out.g HS9.out.r HS9.out.hR (tcells q (.slice A xs.length c))
              refine bodyPost_ret (results_cell_row Try.results95 _ _ w.heap.size 76 _ (0, 0) _ rfl f3 Try.underlying76 rfl (by kernel_rfl)) rfl ?_
              rw [HQ.out]
              exact ⟨f1, f2, _, rfl, 0, A, c, rfl, (if_neg HQK.out).mpr rfl, HK9.out.keep fun b hb => ⟨⟨by have := hb.1; omega, by rw [setRow_size]; exact hb.2⟩, f4 b (by have := hb.1; omega)⟩⟩
  · rw [hsee] at hr2 HQ he
    subst he
    rw [if_pos rfl] at hr2 HQ
    have HS2 := Lib.hid (HS1.out.call hg2 hr2)
    clear hg2 hr2
    obtain ⟨M, hM⟩ : ∃ M, M = ((s.data.toList.drop k).takeWhile fun c => decide (c = 63)).length := ⟨_, rfl⟩
    rw [← hM] at HRN HQ
    have h1M : 1 ≤ M := (HRN.out 0 (Nat.zero_le _)).2 (by simpa using hsee)
    clear hsee hM
    go_wp2_with fail
    go_loopg [3] M (fun g i wr => ∃ n : Nat, 1 ≤ n ∧ n ≤ M ∧ g = M - n + 1 ∧ Value.int .i64 n = i ∧ St0 w R (.iface 59 (.agg #[])) s (k + n) wr)
    case atStart => exact ⟨1, Nat.le_refl _, h1M, by omega, rfl, HS2.out⟩
    case round =>
      obtain ⟨n, hn1, hnM, rfl, rfl, hst⟩ := hrel
      have HS := Lib.hid hst
      have HI := Lib.hid (HIS.out (k + n) 63 _ hst.r)
      have hmore := HRN.out n hnM
      clear hst
      go_wp2_with fail
      refine HI.out.mono ?_
      rintro e w3 ⟨he, hg3, hr3, -⟩
      cases hsee : Cd.sees s.data.toList (k + n) 63
      · rw [hsee] at hr3 he hmore
        subst he
        rw [if_neg Bool.false_ne_true] at hr3
        have hnM2 : n = M := by
          have : ¬ n < M := fun q => Bool.false_ne_true (hmore.1 q)
          omega
        have HQ2 : Hid (Cd.treeG s.data.toList (f + 1) k = .ok (.mk (Cd.gapN (n : Nat) (n : Nat)) [] 0 []) (k + n)) := Lib.hid (by rw [HQ.out, hnM2])
        have HS3 := Lib.hid (HS.out.call hg3 hr3)
        clear hsee hg3 hr3 hmore hnM2 HI
        have hz3 := HS3.out.z
        obtain ⟨z0, z1, z2, z3, z4, z5, z6, z7, z8, z9, z10⟩ := box_cells hz3
        obtain ⟨y0, y1, y2, y3, y4, y5, y6, y7, y8, y9, y10⟩ := box_free hz3
        have HZ3 := Lib.hid hz3
        clear hz3
        go_wp2_with fail
        rw [set_box HZ3.out]
        obtain ⟨f1, f2, f3, f4⟩ := ret_box HZ3.out HS3.out.g HS3.out.r HS3.out.hR #[.int .i64 6, .int .i64 0, .int .i64 0, .int .i64 0, .bool false, .int .i64 0, .int .i64 n, .int .i64 n, .string ⟨#[]⟩, .int .i64 0, .slice none 0 0]
        refine bodyPost_ret (results_cell_row Try.results95 _ _ w.heap.size 76 _ (0, 0) _ rfl f3 Try.underlying76 rfl (by kernel_rfl)) rfl ?_
        rw [HQ2.out]
        exact ⟨f1, f2, _, rfl, 0, none, 0, rfl, rfl, RdH.nil _ _ _⟩
      · rw [hsee] at hr3 he hmore
        subst he
        rw [if_pos rfl] at hr3
        have hn2 := hmore.2 rfl
        have hks := Cd.sees_lt' hsee
        have HS3 := Lib.hid (HS.out.call hg3 hr3)
        have hnb : n ≤ 1000000 := by simp at hks; omega
        clear hsee hg3 hr3 hmore HI hks
        go_wp2_with fail
        go_roundg (M - (n + 1) + 1)
        case measure => omega
        case rel => exact ⟨n + 1, by omega, by omega, rfl, by go_num, HS3.out⟩
theorem tree_any (R : Nat) (s : ByteArray) (hs : s.size ≤ 1000000) : ∀ (f k : Nat) (w : World), s.size + 1 - k ≤ f → RdrIs R (.iface 59 (.agg #[])) s k w → Calls Try.prog 95 #[.pointer (some ⟨R, 0, none⟩)] w (RetP R (.iface 59 (.agg #[])) s (VI S0) (Cd.treeG s.data.toList f k) w)
  | 0, k, w, hf, h => absurd h.le (by omega)
  | f + 1, k, w, hf, h => tree_step R s f k w h hs fun j W hj hr => tree_any R s hs f j W (by omega) hr
end Go.Proofs.Ytenmkbpdkfhbjaa
