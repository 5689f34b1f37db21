/- The program's reader: a ring. Made by gen_cdpart.py.; code.parse's deferred closure.; code.parse: the whole reader of both codes. -/
import Derived.Test.YtenmkbpdkfhbjaaGreatRcCdPart
import Derived.Test.YtenmkbpdkfhbjaaGreatRcCdTreeP
import Derived.Defers
import Derived.Recover
namespace Go.Proofs.YtenmkbpdkfhbjaaGreat
open Go Go.RowKit

set_option maxRecDepth 100000 in
set_option maxHeartbeats 16000000 in
theorem group_any (R : Nat) (s : ByteArray) (hs : s.size ≤ 1000000) (k : Nat) (w : World) (h : RdrIs R (.iface 96 (.agg #[])) s k w) :
    Calls Tryz.prog 141 #[.pointer (some ⟨R, 0, none⟩)] w (RetP R (.iface 96 (.agg #[])) s (VI S0) (Cd.groupG s.data.toList k) w) := by
  have HIS := Lib.hid (fun (j : Nat) (c : UInt8) (W : World) (hr : RdrIs R (.iface 96 (.agg #[])) s j W) => is_any R (.iface 96 (.agg #[])) s j c W hr hs)
  have HMU := Lib.hid (fun (j : Nat) (c : UInt8) (W : World) (hr : RdrIs R (.iface 96 (.agg #[])) s j W) => must_any R (.iface 96 (.agg #[])) s j c W hr hs)
  obtain ⟨p, hp⟩ : ∃ p, p = (Cd.partG s.data.toList) := ⟨_, rfl⟩
  have HIN : Hid (∀ (j : Nat) (W : World), RdrIs R (.iface 96 (.agg #[])) s j W → Calls Tryz.prog 144 #[.pointer (some ⟨R, 0, none⟩)] W (RetP R (.iface 96 (.agg #[])) s (VI S0) (p j) W)) := Lib.hid (fun j W hr => by rw [hp]; exact part_any R s hs j W hr)
  have HMO : Hid (∀ j, j ≤ (p j).pos) := Lib.hid (by rw [hp]; exact fun j => Cd.part_mono j)
  have HQ : Hid (Cd.groupG s.data.toList k = if Cd.sees s.data.toList k 60 = true then (Cd.sepG s.data.toList p 45 (Cd.N s.data.toList) (k + 1)).bind fun xs k1 => (Cd.must s.data.toList k1 62).bind fun _ k2 => .ok (.mk (Cd.kindN 5) [] 0 xs) k2 else p k) := Lib.hid (by rw [hp]; rfl)
  clear hp
  obtain ⟨W1, hW1⟩ : ∃ W1, W1 = w.alloc (.cells #[.int .i64 0, .int .i64 0, .int .i64 0, .int .i64 0, .bool false, .int .i64 0, .int .i64 0, .int .i64 0, .string ⟨#[]⟩, .int .i64 0, .slice none 0 0] 114) := ⟨_, rfl⟩
  have HS1 : Hid (St0 w R (.iface 96 (.agg #[])) s k W1) := Lib.hid (by rw [hW1]; exact St0.start h)
  have HW1 := Lib.hid hW1
  clear h hW1
  go_enter Tryz.func141, Tryz.ntmps141
  go_upto_region 1 with fail
  rw [← HW1.out]
  go_wp2_with fail
  refine (HIS.out k 60 W1 HS1.out.r).mono ?_
  rintro e w2 ⟨he, hg2, hr2, -⟩
  cases hsee : Cd.sees s.data.toList k 60
  · rw [hsee] at hr2 HQ he
    subst he
    rw [if_neg Bool.false_ne_true] at hr2 HQ
    have HS2 := Lib.hid (HS1.out.call hg2 hr2)
    clear hsee hg2 hr2
    have HG := Lib.hid (HIN.out k w2 HS2.out.r)
    unfold RetP at HG
    cases hgl : p k with
    | bad jb =>
      rw [hgl] at HG HQ
      clear hgl
      go_wp2_with fail
      refine HG.out.mono ?_
      rintro e w3 ⟨hgw, rfl⟩
      rw [HQ.out]
      exact ⟨rfl, grown_trans HS2.out.g hgw, rfl⟩
    | ok x j =>
      rw [hgl] at HG HQ
      clear hgl
      go_wp2_with fail
      refine HG.out.mono ?_
      rintro e w3 ⟨hgw, hrw, v, rfl, z, A, c, rfl, hsg, hk⟩
      have HS3 := Lib.hid (HS2.out.call hgw hrw)
      have hz3 := HS3.out.z
      obtain ⟨z0, z1, z2, z3, z4, z5, z6, z7, z8, z9, z10⟩ := box_cells hz3
      obtain ⟨y0, y1, y2, y3, y4, y5, y6, y7, y8, y9, y10⟩ := box_free hz3
      have HZ3 := Lib.hid hz3
      have HSG := Lib.hid hsg
      have HK := Lib.hid hk
      clear hgw hrw hsg hk HG hz3
      unfold aggI
      go_wp2_with fail
      rw [set_box HZ3.out]
      obtain ⟨f1, f2, f3, f4⟩ := ret_box HZ3.out HS3.out.g HS3.out.r HS3.out.hR (rowI x.node z (Cd.bs x.code) x.pos (.slice A x.kids.length c))
      refine bodyPost_ret (results_cell_row Tryz.results141 _ _ w.heap.size 114 _ (0, 0) _ rfl f3 Tryz.underlying114 rfl (by kernel_rfl)) rfl ?_
      rw [HQ.out]
      have hlz := lt_of_some HS2.out.z
      exact ⟨f1, f2, _, rfl, z, A, c, rfl, HSG.out, HK.out.keep fun b hb => ⟨⟨by have h1 : w2.heap.size ≤ b := hb.1; omega, by rw [setRow_size]; exact hb.2⟩, f4 b (by have h1 : w2.heap.size ≤ b := hb.1; omega)⟩⟩
  · rw [hsee] at hr2 HQ he
    subst he
    rw [if_pos rfl] at hr2 HQ
    have HS2 := Lib.hid (HS1.out.call hg2 hr2)
    have hkl := Cd.sees_lt' hsee
    have HQ2 : Hid (Cd.groupG s.data.toList k = (p (k + 1)).bind fun x k1 => (Cd.cont [x] (Cd.restG s.data.toList p 45 s.data.toList.length k1)).bind fun xs k1 => (Cd.must s.data.toList k1 62).bind fun _ k2 => .ok (.mk (Cd.kindN 5) [] 0 xs) k2) := Lib.hid (by
      rw [HQ.out, Cd.N_succ, Cd.sep_rest]
      cases p (k + 1) <;> rfl)
    clear hsee hg2 hr2
    have HG := Lib.hid (HIN.out (k + 1) w2 HS2.out.r)
    have hmo := HMO.out (k + 1)
    unfold RetP at HG
    cases hgl : p (k + 1) with
    | bad jb =>
      rw [hgl] at HG HQ2
      clear hgl hmo
      go_wp2_with fail
      refine HG.out.mono ?_
      rintro e w3 ⟨hgw, rfl⟩
      rw [HQ2.out]
      exact ⟨rfl, grown_trans HS2.out.g hgw, rfl⟩
    | ok x k1 =>
      rw [hgl] at HG HQ2 hmo
      have hk1 : k + 1 ≤ k1 := hmo
      clear hgl hmo
      go_wp2_with fail
      refine HG.out.mono ?_
      rintro e w3 ⟨hgw, hrw, v, rfl, z, A, c, rfl, hsg, hk⟩
      have HS3 := Lib.hid (HS2.out.call hgw hrw)
      have hk3 := hk.keep (w' := w3) (ok' := fun b => b < w3.heap.size ∧ w.heap.size + 1 ≤ b) fun b hb => ⟨⟨hb.2, by have h1 : w2.heap.size ≤ b := hb.1; have := lt_of_some HS2.out.z; omega⟩, rfl⟩
      have hown : OwnG (KI S0) 114 (w3.alloc (.cells #[.int .i64 x.node.kind, .int .i64 x.node.depth, .int .i64 z, .int .i64 x.node.turn, .bool x.node.mirror, .int .i64 x.node.state, .int .i64 x.node.lo, .int .i64 x.node.hi, .string (Cd.bs x.code), .int .i64 x.pos, .slice A x.kids.length c] 114)) (w.heap.size + 1) (.slice (some ⟨w3.heap.size, 0, none⟩) 1 1) [x] := OwnG.made (e := 114) (w := w3) (base := w.heap.size + 1) (K := KI S0) (by have := lt_of_some HS3.out.z; omega) rfl (ki_mk hsg hk3)
      obtain ⟨T, hT⟩ : ∃ T, T = Cd.cont [x] (Cd.restG s.data.toList p 45 s.data.toList.length k1) := ⟨_, rfl⟩
      have HQ3 : Hid (Cd.groupG s.data.toList k = T.bind fun xs k1 => (Cd.must s.data.toList k1 62).bind fun _ k2 => .ok (.mk (Cd.kindN 5) [] 0 xs) k2) := Lib.hid (by rw [HQ2.out, hT]; rfl)
      obtain ⟨X, hX⟩ : ∃ X, X = (w3.alloc (.cells #[.int .i64 x.node.kind, .int .i64 x.node.depth, .int .i64 z, .int .i64 x.node.turn, .bool x.node.mirror, .int .i64 x.node.state, .int .i64 x.node.lo, .int .i64 x.node.hi, .string (Cd.bs x.code), .int .i64 x.pos, .slice A x.kids.length c] 114)).heap.size := ⟨_, rfl⟩
      have hsz : (w3.alloc (.cells #[.int .i64 x.node.kind, .int .i64 x.node.depth, .int .i64 z, .int .i64 x.node.turn, .bool x.node.mirror, .int .i64 x.node.state, .int .i64 x.node.lo, .int .i64 x.node.hi, .string (Cd.bs x.code), .int .i64 x.pos, .slice A x.kids.length c] 114)).heap.size = w3.heap.size + 1 := by simp
      obtain ⟨wl, hwl⟩ : ∃ wl, wl = (w3.alloc (.cells #[.int .i64 x.node.kind, .int .i64 x.node.depth, .int .i64 z, .int .i64 x.node.turn, .bool x.node.mirror, .int .i64 x.node.state, .int .i64 x.node.lo, .int .i64 x.node.hi, .string (Cd.bs x.code), .int .i64 x.pos, .slice A x.kids.length c] 114)).alloc (.cells #[.int .i64 5, .int .i64 0, .int .i64 0, .int .i64 0, .bool false, .int .i64 0, .int .i64 0, .int .i64 0, .string ⟨#[]⟩, .int .i64 0, .slice (some ⟨w3.heap.size, 0, none⟩) 1 1] 114) := ⟨_, rfl⟩
      have HL : Hid (LoopX w R s p 45 T 5 k k1 s.data.toList.length X (.slice (some ⟨w3.heap.size, 0, none⟩) 1 1) [x] wl) := Lib.hid ⟨by rw [hX, hwl]; exact (HS3.out.below ((Below.refl _ _).alloc (Nat.le_refl _) _)).box _, OwnP.of hown (by omega) (by rw [hwl]; exact (Below.refl _ _).alloc (Nat.le_refl _) _), hT.symm, by omega, by simp, by simp, by omega⟩
      have HX := Lib.hid (hX.trans hsz)
      have HWL := Lib.hid hwl
      clear hgw hrw hsg hk hk3 HG hown hT hX hsz hwl HQ HQ2
      unfold aggI
      go_wp2_with fail
      rw [← HWL.out, ← HX.out]
      go_loopg [15] (s.size - k1 + 1) (fun g _ wr => ∃ xs j n kv, g = s.size - j + 1 ∧ LoopX w R s p 45 T 5 k j n X kv xs wr)
      case atStart => exact ⟨[x], k1, _, _, rfl, HL.out⟩
      case round =>
        clear HL
        obtain ⟨xs, j, n, kv, rfl, hl⟩ := hrel
        have HL := Lib.hid hl
        have HI := Lib.hid (HIS.out j 45 wr hl.st.r)
        clear hl
        cases hsee : Cd.sees s.data.toList j 45
        · have HT : Hid (T = .ok xs j) := Lib.hid (by rw [← HL.out.tot]; exact Cd.rest_stop hsee)
          have HQT : Hid (Cd.groupG s.data.toList k = (Cd.must s.data.toList j 62).bind fun _ k2 => .ok (.mk (Cd.kindN 5) [] 0 xs) k2) := Lib.hid (by rw [HQ3.out, HT.out]; rfl)
          have HSE := Lib.hid hsee
          clear hsee
          go_wp2_with fail
          refine HI.out.mono ?_
          rintro e w5 ⟨he, hg5, hr5, hz5⟩
          rw [HSE.out] at he hr5
          subst he
          rw [if_neg Bool.false_ne_true] at hr5
          have HS5 := Lib.hid (HL.out.st.call hg5 hr5)
          have HO5 := Lib.hid (ownp_call HL.out.own hg5 HL.out.st.hR)
          have HM := Lib.hid (HMU.out j 62 w5 hr5)
          unfold RetP at HM
          clear hg5 hr5 hz5 HI HL
          cases hmu : Cd.must s.data.toList j 62 with
          | bad jb =>
            rw [hmu] at HM HQT
            clear hmu
            go_wp2_with fail
            refine HM.out.mono ?_
            rintro e w6 ⟨hgw, rfl⟩
            rw [HQT.out]
            exact ⟨rfl, grown_trans HS5.out.g hgw, rfl⟩
          | ok u k2 =>
            rw [hmu] at HM HQT
            clear hmu
            go_wp2_with fail
            refine HM.out.mono ?_
            rintro e w6 ⟨hg6, hr6, _, rfl, rfl⟩
            obtain ⟨Ak, ck, rfl⟩ := HO5.out.form
            have HS6 := Lib.hid (HS5.out.call hg6 hr6)
            have HO6 := Lib.hid (ownp_call HO5.out hg6 HS5.out.hR)
            clear hg6 hr6 HM
            have hx6 := HS6.out.x
            have hz6 := HS6.out.z
            unfold kcells at hx6
            obtain ⟨g0, g1, g2, g3, g4, g5, g6, g7, g8, g9, g10⟩ := box_cells hx6
            obtain ⟨z0, z1, z2, z3, z4, z5, z6, z7, z8, z9, z10⟩ := box_cells hz6
            obtain ⟨y0, y1, y2, y3, y4, y5, y6, y7, y8, y9, y10⟩ := box_free hz6
            have HZ6 := Lib.hid hz6
            clear hx6 hz6
            go_wp2_with fail
            rw [set_box HZ6.out]
            refine bodyPost_ret (results_cell_row Tryz.results141 _ _ w.heap.size 114 _ (0, 0) _ rfl (setRow_heap _ _ _ _ _ _ HZ6.out) Tryz.underlying114 rfl (by kernel_rfl)) rfl ?_
            exact ret_kids HS6.out HO6.out (by decide) HQT.out
        · have hjs := Cd.sees_lt' hsee
          have HT := Lib.hid (fun (jb : Nat) (hp : p (j + 1) = .bad jb) => (HL.out.tot).symm.trans (Cd.rest_bad hsee HL.out.fuel hp))
          have HM := Lib.hid (fun (y : Cd.Item) (j1 : Nat) (hp : p (j + 1) = .ok y j1) (hk : j + 1 ≤ j1) => Cd.rest_more (xs := xs) hsee HL.out.fuel hp hk)
          have HSE := Lib.hid hsee
          clear hsee
          go_wp2_with fail
          refine HI.out.mono ?_
          rintro e w5 ⟨he, hg5, hr5, hz5⟩
          rw [HSE.out] at he hr5
          subst he
          rw [if_pos rfl] at hr5
          have HS5 := Lib.hid (HL.out.st.call hg5 hr5)
          have HO5 := Lib.hid (ownp_call HL.out.own hg5 HL.out.st.hR)
          have HG := Lib.hid (fun (n : Nat) => HIN.out (j + 1) (w5.drewN n) (hr5.keep rfl))
          unfold RetP at HG
          have x10 := (in_box HS5.out.x 10).1
          simp [kcells] at x10
          have hmo := HMO.out (j + 1)
          clear hg5 hr5 hz5 HI
          cases hq : p (j + 1) with
          | bad jb =>
            rw [hq] at HG
            have HQB : Hid (Cd.groupG s.data.toList k = .bad jb) := Lib.hid (by rw [HQ3.out, HT.out jb hq]; rfl)
            clear hq hmo
            go_upto_region 5 with fail
            go_region_dies
            all_goals
              refine (HG.out 1).mono ?_
              rintro e w6 ⟨hgw, rfl⟩
              rw [HQB.out]
              exact ⟨rfl, grown_trans (grown_drew' HS5.out.g 1) hgw, rfl⟩
          | ok y j2 =>
            rw [hq] at HG hmo
            have hj2 : j + 1 ≤ j2 := hmo
            have HM2 := Lib.hid (HM.out y j2 hq hj2)
            obtain ⟨Ak, ck, rfl⟩ := HO5.out.form
            clear hq hmo
            have HONE : Hid (∀ (z2 : Int) (A2 : Option Addr) (c2 : Nat), ∀ u ∈ encNz y.node z2 ++ [.string (Cd.bs y.code), .int .i64 y.pos, .slice A2 y.kids.length c2], u.oneCell' = true) := Lib.hid fun z2 A2 c2 u hu => by (simp [encNz] at hu; rcases hu with rfl | rfl | rfl | rfl | rfl | rfl | rfl | rfl | rfl | rfl | rfl <;> rfl)
            have HFEW : Hid (xs.length ≤ 2000000) := Lib.hid (by have := HL.out.few; have := HL.out.st.r.le; omega)
            go_upto_region 5 with fail
            go_region_law (first
              | (go_simp; refine (HG.out 1).mono ?_; rintro e w6 ⟨hgw, hrw, _, rfl, z2, A2, c2, rfl, hsgy, hky⟩; have HS6 := Lib.hid ((HS5.out.below (drew_below 1)).call hgw hrw); have HO6 := Lib.hid (ownp_call (HO5.out.aside (row := none) (grown_of_below (drew_below 1)) (fun _ e => by cases e)) hgw HS5.out.hR);
                 have HB7 : Hid (Below w6.heap.size w6 (w6.alloc (.cells #[.int .i64 y.node.kind, .int .i64 y.node.depth, .int .i64 z2, .int .i64 y.node.turn, .bool y.node.mirror, .int .i64 y.node.state, .int .i64 y.node.lo, .int .i64 y.node.hi, .string (Cd.bs y.code), .int .i64 y.pos, .slice A2 y.kids.length c2] 114))) := Lib.hid ((Below.refl _ _).alloc (Nat.le_refl _) _);
                 have HO7 : Hid (OwnP X (w6.alloc (.cells #[.int .i64 y.node.kind, .int .i64 y.node.depth, .int .i64 z2, .int .i64 y.node.turn, .bool y.node.mirror, .int .i64 y.node.state, .int .i64 y.node.lo, .int .i64 y.node.hi, .string (Cd.bs y.code), .int .i64 y.pos, .slice A2 y.kids.length c2] 114)) (w.heap.size + 1) (.slice Ak xs.length ck) xs) := Lib.hid (HO6.out.aside (row := none) (grown_of_below HB7.out) (fun _ e => by cases e));
                 have HS7 : Hid (St w R (.iface 96 (.agg #[])) s j2 X (kcells 5 (.slice Ak xs.length ck)) (w6.alloc (.cells #[.int .i64 y.node.kind, .int .i64 y.node.depth, .int .i64 z2, .int .i64 y.node.turn, .bool y.node.mirror, .int .i64 y.node.state, .int .i64 y.node.lo, .int .i64 y.node.hi, .string (Cd.bs y.code), .int .i64 y.pos, .slice A2 y.kids.length c2] 114))) := Lib.hid (HS6.out.below HB7.out);
                 have HNEW : Hid ((w6.alloc (.cells #[.int .i64 y.node.kind, .int .i64 y.node.depth, .int .i64 z2, .int .i64 y.node.turn, .bool y.node.mirror, .int .i64 y.node.state, .int .i64 y.node.lo, .int .i64 y.node.hi, .string (Cd.bs y.code), .int .i64 y.pos, .slice A2 y.kids.length c2] 114)).heap[w6.heap.size]? = some (.cells #[.int .i64 y.node.kind, .int .i64 y.node.depth, .int .i64 z2, .int .i64 y.node.turn, .bool y.node.mirror, .int .i64 y.node.state, .int .i64 y.node.lo, .int .i64 y.node.hi, .string (Cd.bs y.code), .int .i64 y.pos, .slice A2 y.kids.length c2] 114 (0, 0))) := Lib.hid (heap_alloc_new _ _);
                 have hsz7 : (w6.alloc (.cells #[.int .i64 y.node.kind, .int .i64 y.node.depth, .int .i64 z2, .int .i64 y.node.turn, .bool y.node.mirror, .int .i64 y.node.state, .int .i64 y.node.lo, .int .i64 y.node.hi, .string (Cd.bs y.code), .int .i64 y.pos, .slice A2 y.kids.length c2] 114)).heap.size = w6.heap.size + 1 := by simp;
                 have HXLT : Hid (X < (w6.alloc (.cells #[.int .i64 y.node.kind, .int .i64 y.node.depth, .int .i64 z2, .int .i64 y.node.turn, .bool y.node.mirror, .int .i64 y.node.state, .int .i64 y.node.lo, .int .i64 y.node.hi, .string (Cd.bs y.code), .int .i64 y.pos, .slice A2 y.kids.length c2] 114)).heap.size) := Lib.hid (lt_of_some HS7.out.x);
                 have HBASE : Hid (w.heap.size + 1 ≤ (w6.alloc (.cells #[.int .i64 y.node.kind, .int .i64 y.node.depth, .int .i64 z2, .int .i64 y.node.turn, .bool y.node.mirror, .int .i64 y.node.state, .int .i64 y.node.lo, .int .i64 y.node.hi, .string (Cd.bs y.code), .int .i64 y.pos, .slice A2 y.kids.length c2] 114)).heap.size) := Lib.hid (lt_of_some HS7.out.z);
                 have HRD7 : Hid ((KI S0).rd (w6.alloc (.cells #[.int .i64 y.node.kind, .int .i64 y.node.depth, .int .i64 z2, .int .i64 y.node.turn, .bool y.node.mirror, .int .i64 y.node.state, .int .i64 y.node.lo, .int .i64 y.node.hi, .string (Cd.bs y.code), .int .i64 y.pos, .slice A2 y.kids.length c2] 114)) (fun b => b < (w6.alloc (.cells #[.int .i64 y.node.kind, .int .i64 y.node.depth, .int .i64 z2, .int .i64 y.node.turn, .bool y.node.mirror, .int .i64 y.node.state, .int .i64 y.node.lo, .int .i64 y.node.hi, .string (Cd.bs y.code), .int .i64 y.pos, .slice A2 y.kids.length c2] 114)).heap.size ∧ (Value.slice Ak xs.length ck).ownBlock ≠ some b ∧ w.heap.size + 1 ≤ b ∧ b ≠ X) (encNz y.node z2 ++ [.string (Cd.bs y.code), .int .i64 y.pos, .slice A2 y.kids.length c2]) y) := Lib.hid (ki_mk hsgy (hky.keep fun b hb => (by have h1 : w5.heap.size ≤ b := hb.1; have h2 := lt_of_some HS5.out.x; have h3 := lt_of_some HS5.out.z; exact ⟨⟨by rw [hsz7]; have := hb.2; omega, fun e => by have := (HO5.out.own.lt b e).2; omega, by omega, by omega⟩, HB7.out.block b hb.2⟩)));
                 have x10' := (in_box HS6.out.x 10).1; simp [kcells] at x10'; have hx6 := lt_of_some HS6.out.x; clear hgw hrw hsgy hky hsz7; unfold aggI)
              | (refine step_append_itemP (X := X) (v := .slice Ak xs.length ck) rfl (.tmp 17) (.tmp 20) rfl y rfl HO7.out w6.heap.size 1 (encNz y.node z2 ++ [.string (Cd.bs y.code), .int .i64 y.pos, .slice A2 y.kids.length c2]) rfl (by decide) HNEW.out (HONE.out z2 A2 c2) HRD7.out HFEW.out HBASE.out HXLT.out ?_; intro v8 w8 hown8 hg8; have HO8 := Lib.hid hown8; have HS8 : Hid (St w R (.iface 96 (.agg #[])) s j2 X (kcells 5 (.slice Ak xs.length ck)) w8) := Lib.hid (st_own HS7.out HO7.out hg8); have x10 := (in_box HS8.out.x 10).1; have y10 := (in_box HS8.out.x 10).2; simp [kcells] at x10; obtain ⟨Av, cv8, rfl⟩ := hown8.form; clear hown8 hg8))
            all_goals
              obtain ⟨n2, hn2, hT2⟩ := HM2.out
              have HS9 : Hid (St w R (.iface 96 (.agg #[])) s j2 X (kcells 5 (.slice Av (xs.length + 1) cv8)) (w8.setCell ⟨X, 10, none⟩ (.slice Av (xs.length + 1) cv8))) := Lib.hid (HS8.out.set 10 _)
              have ho8 := HO8.out
              rw [List.length_append, List.length_singleton] at ho8
              have HO9 : Hid (OwnP X (w8.setCell ⟨X, 10, none⟩ (.slice Av (xs.length + 1) cv8)) (w.heap.size + 1) (.slice Av (xs.length + 1) cv8) (xs ++ [y])) := Lib.hid (ho8.aside (grown_set _ _ _ _) fun q e => by cases e; exact .inr rfl)
              clear ho8
              go_wp2_with fail
              go_roundg (s.size - j2 + 1)
              case measure => have := HS9.out.r.le; simp at hjs; omega
              case rel => exact ⟨xs ++ [y], j2, n2, _, rfl, HS9.out, HO9.out, by rw [← hT2]; exact HL.out.tot, hn2, by simp, by have := HL.out.few; simp; omega, by have := HL.out.le; omega⟩
end Go.Proofs.YtenmkbpdkfhbjaaGreat
namespace Go.Proofs.YtenmkbpdkfhbjaaGreat
open Go Go.RowKit

theorem rep11 : Array.replicate 11 undef = #[undef, undef, undef, undef, undef, undef, undef, undef, undef, undef, undef] := by rfl
set_option maxRecDepth 100000 in
set_option maxHeartbeats 8000000 in
theorem catch_idle (p q r : Addr) (w : World) : CallsD Tryz.prog 60 #[.pointer (some p), .pointer (some q), .pointer (some r)] .returning w fun e u' w' => e = .returned (.tuple #[]) ∧ u' = .returning ∧ w' = w := by
  refine callsD_of_wpS Tryz.func60 rfl fun c₀ cs hu => ?_
  apply wpS_seq
  apply wpS_region
  simp [wpOpsS, go_sem, recoverD, hu, Tryz.ntmps60, Exit.thenS, rep11]
  refine wpS_of_wp ?_
  go_wp2_with fail
  cases c₀
  simp_all [bodyPostS, results, Tryz.results60]
set_option maxRecDepth 100000 in
set_option maxHeartbeats 8000000 in
theorem catch_wrong (B4 B5 B6 : Nat) (v4 : Value) (n5 n6 : Int) (k : Nat) (w : World) (h4 : w.heap[B4]? = some (.cells #[v4] 75 (0, 0))) (h5 : w.heap[B5]? = some (.cells #[.int .i64 n5] 3 (0, 0))) (h6 : w.heap[B6]? = some (.cells #[.int .i64 n6] 33 (0, 0))) (d1 : B4 < B5) (d2 : B5 < B6) :
    CallsD Tryz.prog 60 #[.pointer (some ⟨B4, 0, none⟩), .pointer (some ⟨B5, 0, none⟩), .pointer (some ⟨B6, 0, none⟩)] (.panicking (chainAt k)) w fun e u' w' => e = .returned (.tuple #[]) ∧ u' = .panicking [{ v := .iface 106 (.agg #[.int .i64 k]), recovered := true }] ∧
      w'.heap[B4]? = some (.cells #[.slice none 0 0] 75 (0, 0)) ∧ w'.heap[B5]? = some (.cells #[.int .i64 k] 3 (0, 0)) ∧ w'.heap[B6]? = some (.cells #[.int .i64 4] 33 (0, 0)) ∧ Below B4 w w' := by
  unfold chainAt
  refine callsD_of_wpS Tryz.func60 rfl fun c₀ cs hu => ?_
  apply wpS_seq
  apply wpS_region
  simp [wpOpsS, go_sem, recoverD, hu, Tryz.ntmps60, Exit.thenS, rep11]
  refine wpS_of_wp ?_
  have hta : ∀ W, (Instr.typeAssert (.iface 106 (.agg #[.int .i64 (k : Int)])) 20 106 true).run Tryz.prog W = .ok (.tuple #[.agg #[.int .i64 (k : Int)], .bool true]) W := fun _ => by kernel_rfl
  have c4 := (in_box h4 0).1
  have e4 := (in_box h4 0).2
  have c5 := (in_box h5 0).1
  have e5 := (in_box h5 0).2
  have c6 := (in_box h6 0).1
  have e6 := (in_box h6 0).2
  have l4 := lt_of_some h4
  have l5 := lt_of_some h5
  have l6 := lt_of_some h6
  simp at c4 c5 c6
  have H4 := Lib.hid h4
  have H5 := Lib.hid h5
  have H6 := Lib.hid h6
  have n1 : B4 ≠ B5 := by omega
  have n2 : B4 ≠ B6 := by omega
  have n3 : B5 ≠ B6 := by omega
  clear h4 h5 h6
  go_wp2_with fail
  go_region
  obtain ⟨wf, hwf⟩ : ∃ wf, wf = ((((w.setCell ⟨B4, 0, none⟩ (.slice none 0 0)).setCell ⟨B5, 0, none⟩ (.int .i64 (k : Int))).setCell ⟨B6, 0, none⟩ (.int .i64 4)).alloc (.cells #[.int .i64 (k : Int)] 106)).drew := ⟨_, rfl⟩
  have q4 : wf.heap[B4]? = some (.cells #[.slice none 0 0] 75 (0, 0)) := by
    rw [hwf, heap_drew, Below.heap_alloc _ _ _ (by simp only [size_set]; exact l4), Below.heap_setCell _ ⟨B6, 0, none⟩ _ _ n2, Below.heap_setCell _ ⟨B5, 0, none⟩ _ _ n1]
    exact Go.Joins.block_setCell H4.out _
  have q5 : wf.heap[B5]? = some (.cells #[.int .i64 k] 3 (0, 0)) := by
    rw [hwf, heap_drew, Below.heap_alloc _ _ _ (by simp only [size_set]; exact l5), Below.heap_setCell _ ⟨B6, 0, none⟩ _ _ n3]
    exact Go.Joins.block_setCell ((Below.heap_setCell _ ⟨B4, 0, none⟩ _ _ (fun e => n1 e.symm)).trans H5.out) _
  have q6 : wf.heap[B6]? = some (.cells #[.int .i64 4] 33 (0, 0)) := by
    rw [hwf, heap_drew, Below.heap_alloc _ _ _ (by simp only [size_set]; exact l6)]
    exact Go.Joins.block_setCell ((Below.heap_setCell _ ⟨B5, 0, none⟩ _ _ (fun e => n3 e.symm)).trans ((Below.heap_setCell _ ⟨B4, 0, none⟩ _ _ (fun e => n2 e.symm)).trans H6.out)) _
  have hbf : Below B4 w wf := by
    rw [hwf]
    exact (((((Below.refl _ _).setCell (p := ⟨B4, 0, none⟩) (Nat.le_refl _) _).setCell (p := ⟨B5, 0, none⟩) (by show B4 ≤ B5; omega) _).setCell (p := ⟨B6, 0, none⟩) (by show B4 ≤ B6; omega) _).alloc (by simp only [size_set]; omega) _).drew
  rw [← hwf]
  have Q4 := Lib.hid q4
  have Q5 := Lib.hid q5
  have Q6 := Lib.hid q6
  have HBF := Lib.hid hbf
  clear hwf q4 q5 q6 hbf
  go_wp2_with fail
  exact ⟨rfl, _, rfl, .tuple #[], by simp [results, Tryz.results60], rfl, rfl, Q4.out, Q5.out, Q6.out, HBF.out⟩
end Go.Proofs.YtenmkbpdkfhbjaaGreat
namespace Go.Proofs.YtenmkbpdkfhbjaaGreat
open Go Go.RowKit

def RetParse (kind : Int) (s : ByteArray) (w : World) (e : Ending) (w' : World) : Prop := ∃ (v : Value) (n er : Int), e = .returned (.tuple #[v, .int .i64 n, .int .i64 er]) ∧ Below w.heap.size w w' ∧
  match Cd.parseG s.data.toList kind with
  | .bad k => v = .slice none 0 0 ∧ n = k ∧ er = 4
  | .ok xs _ => n = 0 ∧ er = 0 ∧ ∃ A c, v = .slice A xs.length c ∧ RdH (KI S0) 114 w' (fun b => w.heap.size ≤ b ∧ b < w'.heap.size) (.slice A xs.length c) xs
theorem RetParse.mk (kind : Int) (s : ByteArray) (w w' : World) {v : Value} {n er : Int} (hb : Below w.heap.size w w') (h : match Cd.parseG s.data.toList kind with
  | .bad k => v = .slice none 0 0 ∧ n = k ∧ er = 4
  | .ok xs _ => n = 0 ∧ er = 0 ∧ ∃ A c, v = .slice A xs.length c ∧ RdH (KI S0) 114 w' (fun b => w.heap.size ≤ b ∧ b < w'.heap.size) (.slice A xs.length c) xs) : RetParse kind s w (.returned (.tuple #[v, .int .i64 n, .int .i64 er])) w' := ⟨v, n, er, rfl, hb, h⟩
theorem four_alloc (w : World) (A B C D : Obj) : ((((w.alloc A).alloc B).alloc C).alloc D).heap[w.heap.size]? = some A ∧ ((((w.alloc A).alloc B).alloc C).alloc D).heap[w.heap.size + 1]? = some B ∧ ((((w.alloc A).alloc B).alloc C).alloc D).heap[w.heap.size + 1 + 1]? = some C ∧
    ((((w.alloc A).alloc B).alloc C).alloc D).heap[w.heap.size + 1 + 1 + 1]? = some D ∧ ((((w.alloc A).alloc B).alloc C).alloc D).heap.size = w.heap.size + 4 := by
  obtain ⟨a, b, -, -⟩ := two_alloc w A B
  have hs : ((w.alloc A).alloc B).heap.size = w.heap.size + 2 := by simp
  obtain ⟨c, d, e, f⟩ := two_alloc ((w.alloc A).alloc B) C D
  rw [hs] at c d f
  exact ⟨(e.block _ (by omega)).trans a, (e.block _ (by omega)).trans b, c, d, f⟩
set_option maxRecDepth 100000 in
set_option maxHeartbeats 16000000 in
theorem parse_line (s : ByteArray) (hs : s.size ≤ 1000000) (w : World) : Calls Tryz.prog 40 #[.iface 96 (.agg #[]), .string s] w (RetParse 1 s w) := by
  have hmf : ∀ (fn : Fn) (first cap : Array Value) (w : World), (Instr.makeFunc fn first cap).run Tryz.prog w = .ok (.func fn first cap) w := fun _ _ _ _ => rfl
  by_cases he : s.data.toList = []
  · have hE : s.toList.isEmpty = true := by rw [Go.Lib.toList_data, he]; rfl
    have hE2 : s.toList = [] := by rw [Go.Lib.toList_data, he]
    have HP : Hid (Cd.parseG s.data.toList 1 = .ok [] 0) := Lib.hid (by unfold Cd.parseG; rw [if_pos he])
    clear he
    go_enter_defers Tryz.func40, Tryz.ntmps40
    go_wp2_with fail
    refine leaves_cons (f := 60) (args := #[.pointer (some ⟨w.heap.size, 0, none⟩), .pointer (some ⟨w.heap.size + 1, 0, none⟩), .pointer (some ⟨w.heap.size + 1 + 1, 0, none⟩)]) (by simp) (by simp [go_sem]) ?_
    refine (catch_idle _ _ _ _).mono ?_
    rintro e u' w'' ⟨rfl, rfl, rfl⟩
    simp [Leaves, settle, results, Tryz.results40, go_sem]
    refine RetParse.mk _ _ _ _ (((((Below.refl _ _).alloc (Nat.le_refl _) _).alloc (by simp) _).alloc (by simp; omega) _).alloc (by simp; omega) _) ?_
    rw [HP.out]
    exact ⟨rfl, rfl, none, 0, rfl, RdH.nil _ _ _⟩
  · have hE : s.toList.isEmpty = false := by
      rw [Go.Lib.toList_data]
      cases h : s.data.toList with
      | nil => exact absurd h he
      | cons a l => rfl
    have HP : Hid (Cd.parseG s.data.toList 1 = (Cd.sepG s.data.toList (Cd.groupG s.data.toList) 45 (Cd.N s.data.toList) 0).bind fun xs k => if k < s.data.toList.length then .bad k else .ok xs k) := Lib.hid (by unfold Cd.parseG; rw [if_neg he]; rfl)
    have hme : ∀ W, (method 335 96 (.agg #[]) "ostracon/code.read").run Tryz.prog W = .ok (139, .agg #[]) W := fun _ => by kernel_rfl
    obtain ⟨W4, hW4⟩ : ∃ W4, W4 = (((w.alloc (.cells #[.slice none 0 0] 75)).alloc (.cells #[.int .i64 0] 3)).alloc (.cells #[.int .i64 0] 33)).alloc (.cells #[.iface 96 (.agg #[]), .string s, .int .i64 0] 109) := ⟨_, rfl⟩
    have hb4 : Below w.heap.size w W4 := by rw [hW4]; exact ((((Below.refl _ _).alloc (Nat.le_refl _) _).alloc (by simp) _).alloc (by simp; omega) _).alloc (by simp; omega) _
    obtain ⟨h4, h5, h6, h7, hsz4⟩ := four_alloc w (.cells #[.slice none 0 0] 75) (.cells #[.int .i64 0] 3) (.cells #[.int .i64 0] 33) (.cells #[.iface 96 (.agg #[]), .string s, .int .i64 0] 109)
    rw [← hW4] at h4 h5 h6 h7 hsz4
    have HL := Lib.hid ((fun R W hr => lread_any R (.iface 96 (.agg #[])) s (Cd.groupG s.data.toList) 0 W hr hs (fun j U _ hu => group_any R s hs j U hu) (fun j => Cd.group_mono j)) (w.heap.size + 1 + 1 + 1) W4 ⟨h7, Nat.zero_le _⟩)
    unfold RetP at HL
    have HB4 := Lib.hid hb4
    have H4 := Lib.hid h4
    have H5 := Lib.hid h5
    have H6 := Lib.hid h6
    have HS4 := Lib.hid hsz4
    have HW4 := Lib.hid hW4
    clear he hb4 h4 h5 h6 h7 hsz4 hW4
    cases hli : Cd.sepG s.data.toList (Cd.groupG s.data.toList) 45 (Cd.N s.data.toList) 0 with
    | bad jb =>
      rw [hli] at HL HP
      clear hli
      go_enter_defers Tryz.func40, Tryz.ntmps40
      go_upto_region 5 with fail
      rw [← HW4.out]
      go_wp2_with fail
      refine HL.out.mono ?_
      rintro e w5 ⟨hgw, rfl⟩
      have k4 := (hgw.block _ (lt_of_some H4.out) (fun e => by injection e with e; omega)).trans H4.out
      have k5 := (hgw.block _ (lt_of_some H5.out) (fun e => by injection e with e; omega)).trans H5.out
      have k6 := (hgw.block _ (lt_of_some H6.out) (fun e => by injection e with e; omega)).trans H6.out
      have HB5 : Hid (Below w.heap.size w w5) := Lib.hid (HB4.out.grown hgw (by have := HB4.out.size; exact this) (fun q e => by cases e; omega))
      refine leaves_cons (f := 60) (args := #[.pointer (some ⟨w.heap.size, 0, none⟩), .pointer (some ⟨w.heap.size + 1, 0, none⟩), .pointer (some ⟨w.heap.size + 1 + 1, 0, none⟩)]) (by simp) (by simp [go_sem]) ?_
      refine (catch_wrong _ _ _ _ _ _ jb w5 k4 k5 k6 (by omega) (by omega)).mono ?_
      rintro e u' w6 ⟨rfl, rfl, q4, q5, q6, hb6⟩
      have c4 := (in_box q4 0).1
      have c5 := (in_box q5 0).1
      have c6 := (in_box q6 0).1
      simp at c4 c5 c6
      have HB6 := Lib.hid (HB5.out.trans hb6)
      clear hgw k4 k5 k6 q4 q5 q6 hb6 hmf hme
      simp [Leaves, settle, results, Tryz.results40, go_sem, c4, c5, c6]
      refine RetParse.mk _ _ _ _ HB6.out ?_
      rw [HP.out]
      exact ⟨rfl, rfl, rfl⟩
    | ok xs k1 =>
      rw [hli] at HL HP
      clear hli
      dsimp only [Cd.R.bind] at HP
      by_cases hk : k1 < s.data.toList.length
      · have HPB := Lib.hid (HP.out.trans (if_pos hk))
        have hk' : k1 < s.size := by simpa using hk
        have d1 : decide ((k1 : Int) < (s.size : Int)) = true := by simpa using hk'
        clear hk HP
        go_enter_defers Tryz.func40, Tryz.ntmps40
        go_upto_region 5 with fail
        rw [← HW4.out]
        go_wp2_with fail
        refine HL.out.mono ?_
        rintro e w5 ⟨hgw, hrw, _, rfl, A, c, rfl, -⟩
        have k4 := (hgw.block _ (lt_of_some H4.out) (fun e => by injection e with e; omega)).trans H4.out
        have k5 := (hgw.block _ (lt_of_some H5.out) (fun e => by injection e with e; omega)).trans H5.out
        have k6 := (hgw.block _ (lt_of_some H6.out) (fun e => by injection e with e; omega)).trans H6.out
        have HB5 : Hid (Below w.heap.size w w5) := Lib.hid (HB4.out.grown hgw (by have := HB4.out.size; exact this) (fun q e => by cases e; omega))
        have x4 := (in_box k4 0).1
        have y4 := (in_box k4 0).2
        simp at x4
        obtain ⟨w6, hw6⟩ : ∃ w6, w6 = w5.setCell ⟨w.heap.size, 0, none⟩ (.slice A xs.length c) := ⟨_, rfl⟩
        have HB6 : Hid (Below w.heap.size w w6) := Lib.hid (by rw [hw6]; exact HB5.out.setCell (Nat.le_refl _) _)
        have K4 : Hid (w6.heap[w.heap.size]? = some (.cells #[.slice A xs.length c] 75 (0, 0))) := Lib.hid (by rw [hw6]; exact Go.Joins.block_setCell k4 _)
        have K5 : Hid (w6.heap[w.heap.size + 1]? = some (.cells #[.int .i64 0] 3 (0, 0))) := Lib.hid (by rw [hw6]; exact (Below.heap_setCell _ ⟨w.heap.size, 0, none⟩ _ _ (by show w.heap.size + 1 ≠ w.heap.size; omega)).trans k5)
        have K6 : Hid (w6.heap[w.heap.size + 1 + 1]? = some (.cells #[.int .i64 0] 33 (0, 0))) := Lib.hid (by rw [hw6]; exact (Below.heap_setCell _ ⟨w.heap.size, 0, none⟩ _ _ (by show w.heap.size + 1 + 1 ≠ w.heap.size; omega)).trans k6)
        have hr6 : RdrIs (w.heap.size + 1 + 1 + 1) (.iface 96 (.agg #[])) s k1 w6 := hrw.keep (by rw [hw6]; exact Below.heap_setCell _ ⟨w.heap.size, 0, none⟩ _ _ (by show w.heap.size + 1 + 1 + 1 ≠ w.heap.size; omega))
        have HF := Lib.hid (fail_any _ _ _ _ w6 hr6)
        have HW6 := Lib.hid hw6
        obtain ⟨c0, c1, c2, f2, hlt⟩ := hr6.at
        clear hw6 hgw hrw k4 k5 k6
        go_upto_region 6 with fail
        rw [← HW6.out]
        clear x4 y4
        go_wp2_with fail
        refine HF.out.mono ?_
        rintro e w7 ⟨rfl, hb7⟩
        have k4 := (hb7.block _ (lt_of_some K4.out)).trans K4.out
        have k5 := (hb7.block _ (lt_of_some K5.out)).trans K5.out
        have k6 := (hb7.block _ (lt_of_some K6.out)).trans K6.out
        refine leaves_cons (f := 60) (args := #[.pointer (some ⟨w.heap.size, 0, none⟩), .pointer (some ⟨w.heap.size + 1, 0, none⟩), .pointer (some ⟨w.heap.size + 1 + 1, 0, none⟩)]) (by simp) (by simp [go_sem]) ?_
        refine (catch_wrong _ _ _ _ _ _ k1 w7 k4 k5 k6 (by omega) (by omega)).mono ?_
        rintro e u' w8 ⟨rfl, rfl, q4, q5, q6, hb8⟩
        have c4 := (in_box q4 0).1
        have c5 := (in_box q5 0).1
        have c6 := (in_box q6 0).1
        simp at c4 c5 c6
        have HB8 := Lib.hid ((HB6.out.trans (hb7.mono HB6.out.size)).trans hb8)
        clear k4 k5 k6 q4 q5 q6 hb7 hb8 hmf hme c0 c1 c2 f2
        simp [Leaves, settle, results, Tryz.results40, go_sem, c4, c5, c6]
        refine RetParse.mk _ _ _ _ HB8.out ?_
        rw [HPB.out]
        exact ⟨rfl, rfl, rfl⟩
      · have HPO := Lib.hid (HP.out.trans (if_neg hk))
        have hk' : ¬ k1 < s.size := by simpa using hk
        have d1 : decide ((k1 : Int) < (s.size : Int)) = false := by simpa using hk'
        have d2 : decide (k1 < s.size) = false := by simpa using hk'
        clear hk hk' HP
        go_enter_defers Tryz.func40, Tryz.ntmps40
        go_upto_region 5 with fail
        rw [← HW4.out]
        go_wp2_with fail
        refine HL.out.mono ?_
        rintro e w5 ⟨hgw, hrw, _, rfl, A, c, rfl, hkk⟩
        have k4 := (hgw.block _ (lt_of_some H4.out) (fun e => by injection e with e; omega)).trans H4.out
        have k5 := (hgw.block _ (lt_of_some H5.out) (fun e => by injection e with e; omega)).trans H5.out
        have k6 := (hgw.block _ (lt_of_some H6.out) (fun e => by injection e with e; omega)).trans H6.out
        have HB5 : Hid (Below w.heap.size w w5) := Lib.hid (HB4.out.grown hgw (by have := HB4.out.size; exact this) (fun q e => by cases e; omega))
        have x4 := (in_box k4 0).1
        have y4 := (in_box k4 0).2
        have x5 := (in_box k5 0).1
        have y5 := (in_box k5 0).2
        have x6 := (in_box k6 0).1
        have y6 := (in_box k6 0).2
        simp at x4 x5 x6
        have HKK := Lib.hid hkk
        have K4 := Lib.hid k4
        have K5 := Lib.hid k5
        have K6 := Lib.hid k6
        obtain ⟨c0, c1, c2, f2, hlt⟩ := hrw.at
        clear hgw hrw k4 k5 k6 hkk
        go_wp2_with fail
        refine leaves_cons (f := 60) (args := #[.pointer (some ⟨w.heap.size, 0, none⟩), .pointer (some ⟨w.heap.size + 1, 0, none⟩), .pointer (some ⟨w.heap.size + 1 + 1, 0, none⟩)]) (by simp) (by simp [go_sem]) ?_
        refine (catch_idle _ _ _ _).mono ?_
        rintro e u' w'' ⟨rfl, rfl, rfl⟩
        obtain ⟨wf, hwf⟩ : ∃ wf, wf = (((w5.setCell ⟨w.heap.size, 0, none⟩ (.slice A xs.length c)).setCell ⟨w.heap.size, 0, none⟩ (.slice A xs.length c)).setCell ⟨w.heap.size + 1, 0, none⟩ (.int .i64 0)).setCell ⟨w.heap.size + 1 + 1, 0, none⟩ (.int .i64 0) := ⟨_, rfl⟩
        rw [← hwf]
        have l4 := block_lt_of_cell x4
        have hb9 : Below w.heap.size w wf := by rw [hwf]; exact (((HB5.out.setCell (Nat.le_refl _) _).setCell (Nat.le_refl _) _).setCell (Nat.le_succ _) _).setCell (by show w.heap.size ≤ w.heap.size + 1 + 1; omega) _
        have hk9 : ∀ b, w.heap.size + 1 + 1 < b → wf.heap[b]? = w5.heap[b]? := fun b hb => by
          rw [hwf, Below.heap_setCell _ ⟨w.heap.size + 1 + 1, 0, none⟩ _ _ (by show b ≠ w.heap.size + 1 + 1; omega), Below.heap_setCell _ ⟨w.heap.size + 1, 0, none⟩ _ _ (by show b ≠ w.heap.size + 1; omega), Below.heap_setCell _ ⟨w.heap.size, 0, none⟩ _ _ (by show b ≠ w.heap.size; omega), Below.heap_setCell _ ⟨w.heap.size, 0, none⟩ _ _ (by show b ≠ w.heap.size; omega)]
        have hs9 : wf.heap.size = w5.heap.size := by rw [hwf]; simp only [size_set]
        have g6 : wf.heap[w.heap.size + 1 + 1]? = some (.cells #[.int .i64 0] 33 (0, 0)) := by
          rw [hwf]
          exact Go.Joins.block_setCell ((Below.heap_setCell _ ⟨w.heap.size + 1, 0, none⟩ _ _ (by show w.heap.size + 1 + 1 ≠ w.heap.size + 1; omega)).trans ((Below.heap_setCell _ ⟨w.heap.size, 0, none⟩ _ _ (by show w.heap.size + 1 + 1 ≠ w.heap.size; omega)).trans ((Below.heap_setCell _ ⟨w.heap.size, 0, none⟩ _ _ (by show w.heap.size + 1 + 1 ≠ w.heap.size; omega)).trans K6.out))) _
        have g5 : wf.heap[w.heap.size + 1]? = some (.cells #[.int .i64 0] 3 (0, 0)) := by
          rw [hwf]
          exact (Below.heap_setCell _ ⟨w.heap.size + 1 + 1, 0, none⟩ _ _ (by show w.heap.size + 1 ≠ w.heap.size + 1 + 1; omega)).trans (Go.Joins.block_setCell ((Below.heap_setCell _ ⟨w.heap.size, 0, none⟩ _ _ (by show w.heap.size + 1 ≠ w.heap.size; omega)).trans ((Below.heap_setCell _ ⟨w.heap.size, 0, none⟩ _ _ (by show w.heap.size + 1 ≠ w.heap.size; omega)).trans K5.out)) _)
        have g4 : wf.heap[w.heap.size]? = some (.cells #[.slice A xs.length c] 75 (0, 0)) := by
          rw [hwf]
          exact (Below.heap_setCell _ ⟨w.heap.size + 1 + 1, 0, none⟩ _ _ (by show w.heap.size ≠ w.heap.size + 1 + 1; omega)).trans ((Below.heap_setCell _ ⟨w.heap.size + 1, 0, none⟩ _ _ (by show w.heap.size ≠ w.heap.size + 1; omega)).trans (Go.Joins.block_setCell (Go.Joins.block_setCell K4.out _) _))
        have c4 := (in_box g4 0).1
        have c5 := (in_box g5 0).1
        have c6 := (in_box g6 0).1
        simp at c4 c5 c6
        have HB9 := Lib.hid hb9
        have HK9 := Lib.hid hk9
        have HS9 := Lib.hid hs9
        clear hwf g4 g5 g6 hb9 hk9 hs9 x4 y4 x5 y5 x6 y6 c0 c1 c2 f2 hmf hme
        simp [Leaves, settle, results, Tryz.results40, go_sem, c4, c5, c6]
        refine RetParse.mk _ _ _ _ HB9.out ?_
        rw [HPO.out]
        exact ⟨rfl, rfl, A, c, rfl, HKK.out.keep fun b hb => by
          have h1 : W4.heap.size ≤ b := hb.1
          have h2 := HS4.out
          have h3 := HS9.out
          have h4 : b < w5.heap.size := hb.2
          exact ⟨⟨by omega, by omega⟩, HK9.out b (by omega)⟩⟩
end Go.Proofs.YtenmkbpdkfhbjaaGreat
