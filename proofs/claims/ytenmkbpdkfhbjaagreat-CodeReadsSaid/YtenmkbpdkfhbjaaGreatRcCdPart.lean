/- The program's reader: an honour, a ring. Made by gen_cdpart.py. -/
import Derived.Test.YtenmkbpdkfhbjaaGreatRcCdReadL
namespace Go.Proofs.YtenmkbpdkfhbjaaGreat
open Go Go.RowKit

def kcells (kind : Int) (kv : Value) : Array Value := #[.int .i64 kind, .int .i64 0, .int .i64 0, .int .i64 0, .bool false, .int .i64 0, .int .i64 0, .int .i64 0, .string ⟨#[]⟩, .int .i64 0, kv]
structure LoopX (w : World) (R : Nat) (s : ByteArray) (p : Nat → Cd.R Cd.Item) (c : UInt8) (T : Cd.R (List Cd.Item)) (kind : Int) (k j n X : Nat) (kv : Value) (xs : List Cd.Item) (W : World) : Prop where
  st : St w R (.iface 96 (.agg #[])) s j X (kcells kind kv) W
  own : OwnP X W (w.heap.size + 1) kv xs
  tot : Cd.cont xs (Cd.restG s.data.toList p c n j) = T
  fuel : s.data.toList.length - j < n
  pos : 0 < xs.length
  few : xs.length ≤ j + 1
  le : k ≤ j
theorem ownp_call {X : Nat} {w W W' : World} {R : Nat} {kv : Value} {xs : List Cd.Item} (h : OwnP X W (w.heap.size + 1) kv xs) (hg : W.grownBy W' (some R)) (hR : R < w.heap.size) : OwnP X W' (w.heap.size + 1) kv xs :=
  h.aside hg fun k e => by cases e; exact .inl (by omega)
theorem ret_kids {w W : World} {R : Nat} {s : ByteArray} {j X : Nat} {kind : Int} {A : Option Addr} {c : Nat} {xs : List Cd.Item} (hst : St w R (.iface 96 (.agg #[])) s j X (kcells kind (.slice A xs.length c)) W) (ho : OwnP X W (w.heap.size + 1) (.slice A xs.length c) xs) (hn : kind ≠ 1) {q : Cd.R Cd.Item} (hq : q = .ok (.mk (Cd.kindN kind) [] 0 xs) j) :
    RetP R (.iface 96 (.agg #[])) s (VI S0) q w (.returned (.agg (kcells kind (.slice A xs.length c)))) (W.setRow w.heap.size (kcells kind (.slice A xs.length c))) := by
  obtain ⟨f1, f2, f3, f4⟩ := ret_box hst.z hst.g hst.r hst.hR (kcells kind (.slice A xs.length c))
  rw [hq]
  exact ⟨f1, f2, _, rfl, 0, A, c, rfl, (if_neg hn).mpr rfl, ho.own.head.keep fun b hb => ⟨⟨by have := hb.2; omega, by rw [setRow_size]; exact hb.1⟩, f4 b (by have := hb.2; omega)⟩⟩
theorem st_own {w W W' : World} {R : Nat} {s : ByteArray} {j X : Nat} {cs : Array Value} {kv : Value} {xs : List Cd.Item} (h : St w R (.iface 96 (.agg #[])) s j X cs W) (ho : OwnP X W (w.heap.size + 1) kv xs) (hg : W.grownBy W' kv.ownBlock) : St w R (.iface 96 (.agg #[])) s j X cs W' := by
  have hne : ∀ b, b ≤ w.heap.size ∨ b = X → some b ≠ kv.ownBlock := fun b hb e => by
    rcases hb with q | q
    · have := (ho.own.lt b e.symm).1; omega
    · obtain ⟨_, -, -, h3⟩ := ho; exact h3 (by rw [← e, q])
  exact ⟨grown_own h.g hg (fun g hg' => by have := (ho.own.lt g hg').1; omega), h.r.keep (hg.block R h.r.at.2.2.2.2 (hne R (.inl (by have := h.hR; omega)))), (hg.block _ (lt_of_some h.z) (hne _ (.inl (Nat.le_refl _)))).trans h.z, (hg.block _ (lt_of_some h.x) (hne _ (.inr rfl))).trans h.x, h.hR, h.hX⟩
set_option maxRecDepth 100000 in
set_option maxHeartbeats 16000000 in
theorem part_any (R : Nat) (s : ByteArray) (hs : s.size ≤ 1000000) (k : Nat) (w : World) (h : RdrIs R (.iface 96 (.agg #[])) s k w) :
    Calls Tryz.prog 144 #[.pointer (some ⟨R, 0, none⟩)] w (RetP R (.iface 96 (.agg #[])) s (VI S0) (Cd.partG s.data.toList k) w) := by
  have HIS := Lib.hid (fun (j : Nat) (c : UInt8) (W : World) (hr : RdrIs R (.iface 96 (.agg #[])) s j W) => is_any R (.iface 96 (.agg #[])) s j c W hr hs)
  have HMU := Lib.hid (fun (j : Nat) (c : UInt8) (W : World) (hr : RdrIs R (.iface 96 (.agg #[])) s j W) => must_any R (.iface 96 (.agg #[])) s j c W hr hs)
  obtain ⟨p, hp⟩ : ∃ p, p = (Cd.aboveG s.data.toList (Cd.overG s.data.toList (Cd.N s.data.toList)) false) := ⟨_, rfl⟩
  have HIN : Hid (∀ (j : Nat) (W : World), RdrIs R (.iface 96 (.agg #[])) s j W → Calls Tryz.prog 148 #[.pointer (some ⟨R, 0, none⟩), .bool false] W (RetP R (.iface 96 (.agg #[])) s (VI S0) (p j) W)) := Lib.hid (fun j W hr => by rw [hp]; exact above_all R s hs false j W hr)
  have HMO : Hid (∀ j, j ≤ (p j).pos) := Lib.hid (by rw [hp]; exact Cd.above_mono (Cd.over_mono _) false)
  have HQ : Hid (Cd.partG s.data.toList k = if Cd.sees s.data.toList k 91 = true then (Cd.sepG s.data.toList p 59 (Cd.N s.data.toList) (k + 1)).bind fun xs k1 => (Cd.must s.data.toList k1 93).bind fun _ k2 => .ok (.mk (Cd.kindN 7) [] 0 xs) k2 else p k) := Lib.hid (by rw [hp]; rfl)
  clear hp
  obtain ⟨W1, hW1⟩ : ∃ W1, W1 = w.alloc (.cells #[.int .i64 0, .int .i64 0, .int .i64 0, .int .i64 0, .bool false, .int .i64 0, .int .i64 0, .int .i64 0, .string ⟨#[]⟩, .int .i64 0, .slice none 0 0] 114) := ⟨_, rfl⟩
  have HS1 : Hid (St0 w R (.iface 96 (.agg #[])) s k W1) := Lib.hid (by rw [hW1]; exact St0.start h)
  have HW1 := Lib.hid hW1
  clear h hW1
  go_enter Tryz.func144, Tryz.ntmps144
  go_upto_region 1 with fail
  rw [← HW1.out]
  go_wp2_with fail
  refine (HIS.out k 91 W1 HS1.out.r).mono ?_
  rintro e w2 ⟨he, hg2, hr2, -⟩
  cases hsee : Cd.sees s.data.toList k 91
  · rw [hsee] at hr2 HQ he
    subst he
    rw [if_neg Bool.false_ne_true] at hr2 HQ
    have HS2 := Lib.hid (HS1.out.call hg2 hr2)
    clear hsee hg2 hr2
    have HG := Lib.hid (HIN.out k w2 HS2.out.r)
    unfold RetP at HG
    cases hgl : p k with
    | bad jb =>
      rw [hgl] at HG HQ
      clear hgl
      go_wp2_with fail
      refine HG.out.mono ?_
      rintro e w3 ⟨hgw, rfl⟩
      rw [HQ.out]
      exact ⟨rfl, grown_trans HS2.out.g hgw, rfl⟩
    | ok x j =>
      rw [hgl] at HG HQ
      clear hgl
      go_wp2_with fail
      refine HG.out.mono ?_
      rintro e w3 ⟨hgw, hrw, v, rfl, z, A, c, rfl, hsg, hk⟩
      have HS3 := Lib.hid (HS2.out.call hgw hrw)
      have hz3 := HS3.out.z
      obtain ⟨z0, z1, z2, z3, z4, z5, z6, z7, z8, z9, z10⟩ := box_cells hz3
      obtain ⟨y0, y1, y2, y3, y4, y5, y6, y7, y8, y9, y10⟩ := box_free hz3
      have HZ3 := Lib.hid hz3
      have HSG := Lib.hid hsg
      have HK := Lib.hid hk
      clear hgw hrw hsg hk HG hz3
      unfold aggI
      go_wp2_with fail
      rw [set_box HZ3.out]
      obtain ⟨f1, f2, f3, f4⟩ := ret_box HZ3.out HS3.out.g HS3.out.r HS3.out.hR (rowI x.node z (Cd.bs x.code) x.pos (.slice A x.kids.length c))
      refine bodyPost_ret (results_cell_row Tryz.results144 _ _ w.heap.size 114 _ (0, 0) _ rfl f3 Tryz.underlying114 rfl (by kernel_rfl)) rfl ?_
      rw [HQ.out]
      have hlz := lt_of_some HS2.out.z
      exact ⟨f1, f2, _, rfl, z, A, c, rfl, HSG.out, HK.out.keep fun b hb => ⟨⟨by have h1 : w2.heap.size ≤ b := hb.1; omega, by rw [setRow_size]; exact hb.2⟩, f4 b (by have h1 : w2.heap.size ≤ b := hb.1; omega)⟩⟩
  · rw [hsee] at hr2 HQ he
    subst he
    rw [if_pos rfl] at hr2 HQ
    have HS2 := Lib.hid (HS1.out.call hg2 hr2)
    have hkl := Cd.sees_lt' hsee
    have HQ2 : Hid (Cd.partG s.data.toList k = (p (k + 1)).bind fun x k1 => (Cd.cont [x] (Cd.restG s.data.toList p 59 s.data.toList.length k1)).bind fun xs k1 => (Cd.must s.data.toList k1 93).bind fun _ k2 => .ok (.mk (Cd.kindN 7) [] 0 xs) k2) := Lib.hid (by
      rw [HQ.out, Cd.N_succ, Cd.sep_rest]
      cases p (k + 1) <;> rfl)
    clear hsee hg2 hr2
    have HG := Lib.hid (HIN.out (k + 1) w2 HS2.out.r)
    have hmo := HMO.out (k + 1)
    unfold RetP at HG
    cases hgl : p (k + 1) with
    | bad jb =>
      rw [hgl] at HG HQ2
      clear hgl hmo
      go_wp2_with fail
      refine HG.out.mono ?_
      rintro e w3 ⟨hgw, rfl⟩
      rw [HQ2.out]
      exact ⟨rfl, grown_trans HS2.out.g hgw, rfl⟩
    | ok x k1 =>
      rw [hgl] at HG HQ2 hmo
      have hk1 : k + 1 ≤ k1 := hmo
      clear hgl hmo
      go_wp2_with fail
      refine HG.out.mono ?_
      rintro e w3 ⟨hgw, hrw, v, rfl, z, A, c, rfl, hsg, hk⟩
      have HS3 := Lib.hid (HS2.out.call hgw hrw)
      have hk3 := hk.keep (w' := w3) (ok' := fun b => b < w3.heap.size ∧ w.heap.size + 1 ≤ b) fun b hb => ⟨⟨hb.2, by have h1 : w2.heap.size ≤ b := hb.1; have := lt_of_some HS2.out.z; omega⟩, rfl⟩
      have hown : OwnG (KI S0) 114 (w3.alloc (.cells #[.int .i64 x.node.kind, .int .i64 x.node.depth, .int .i64 z, .int .i64 x.node.turn, .bool x.node.mirror, .int .i64 x.node.state, .int .i64 x.node.lo, .int .i64 x.node.hi, .string (Cd.bs x.code), .int .i64 x.pos, .slice A x.kids.length c] 114)) (w.heap.size + 1) (.slice (some ⟨w3.heap.size, 0, none⟩) 1 1) [x] := OwnG.made (e := 114) (w := w3) (base := w.heap.size + 1) (K := KI S0) (by have := lt_of_some HS3.out.z; omega) rfl (ki_mk hsg hk3)
      obtain ⟨T, hT⟩ : ∃ T, T = Cd.cont [x] (Cd.restG s.data.toList p 59 s.data.toList.length k1) := ⟨_, rfl⟩
      have HQ3 : Hid (Cd.partG s.data.toList k = T.bind fun xs k1 => (Cd.must s.data.toList k1 93).bind fun _ k2 => .ok (.mk (Cd.kindN 7) [] 0 xs) k2) := Lib.hid (by rw [HQ2.out, hT]; rfl)
      obtain ⟨X, hX⟩ : ∃ X, X = (w3.alloc (.cells #[.int .i64 x.node.kind, .int .i64 x.node.depth, .int .i64 z, .int .i64 x.node.turn, .bool x.node.mirror, .int .i64 x.node.state, .int .i64 x.node.lo, .int .i64 x.node.hi, .string (Cd.bs x.code), .int .i64 x.pos, .slice A x.kids.length c] 114)).heap.size := ⟨_, rfl⟩
      have hsz : (w3.alloc (.cells #[.int .i64 x.node.kind, .int .i64 x.node.depth, .int .i64 z, .int .i64 x.node.turn, .bool x.node.mirror, .int .i64 x.node.state, .int .i64 x.node.lo, .int .i64 x.node.hi, .string (Cd.bs x.code), .int .i64 x.pos, .slice A x.kids.length c] 114)).heap.size = w3.heap.size + 1 := by simp
      obtain ⟨wl, hwl⟩ : ∃ wl, wl = (w3.alloc (.cells #[.int .i64 x.node.kind, .int .i64 x.node.depth, .int .i64 z, .int .i64 x.node.turn, .bool x.node.mirror, .int .i64 x.node.state, .int .i64 x.node.lo, .int .i64 x.node.hi, .string (Cd.bs x.code), .int .i64 x.pos, .slice A x.kids.length c] 114)).alloc (.cells #[.int .i64 7, .int .i64 0, .int .i64 0, .int .i64 0, .bool false, .int .i64 0, .int .i64 0, .int .i64 0, .string ⟨#[]⟩, .int .i64 0, .slice (some ⟨w3.heap.size, 0, none⟩) 1 1] 114) := ⟨_, rfl⟩
      have HL : Hid (LoopX w R s p 59 T 7 k k1 s.data.toList.length X (.slice (some ⟨w3.heap.size, 0, none⟩) 1 1) [x] wl) := Lib.hid ⟨by rw [hX, hwl]; exact (HS3.out.below ((Below.refl _ _).alloc (Nat.le_refl _) _)).box _, OwnP.of hown (by omega) (by rw [hwl]; exact (Below.refl _ _).alloc (Nat.le_refl _) _), hT.symm, by omega, by simp, by simp, by omega⟩
      have HX := Lib.hid (hX.trans hsz)
      have HWL := Lib.hid hwl
      clear hgw hrw hsg hk hk3 HG hown hT hX hsz hwl HQ HQ2
      unfold aggI
      go_wp2_with fail
      rw [← HWL.out, ← HX.out]
      go_loopg [15] (s.size - k1 + 1) (fun g _ wr => ∃ xs j n kv, g = s.size - j + 1 ∧ LoopX w R s p 59 T 7 k j n X kv xs wr)
      case atStart => exact ⟨[x], k1, _, _, rfl, HL.out⟩
      case round =>
        clear HL
        obtain ⟨xs, j, n, kv, rfl, hl⟩ := hrel
        have HL := Lib.hid hl
        have HI := Lib.hid (HIS.out j 59 wr hl.st.r)
        clear hl
        cases hsee : Cd.sees s.data.toList j 59
        · have HT : Hid (T = .ok xs j) := Lib.hid (by rw [← HL.out.tot]; exact Cd.rest_stop hsee)
          have HQT : Hid (Cd.partG s.data.toList k = (Cd.must s.data.toList j 93).bind fun _ k2 => .ok (.mk (Cd.kindN 7) [] 0 xs) k2) := Lib.hid (by rw [HQ3.out, HT.out]; rfl)
          have HSE := Lib.hid hsee
          clear hsee
          go_wp2_with fail
          refine HI.out.mono ?_
          rintro e w5 ⟨he, hg5, hr5, hz5⟩
          rw [HSE.out] at he hr5
          subst he
          rw [if_neg Bool.false_ne_true] at hr5
          have HS5 := Lib.hid (HL.out.st.call hg5 hr5)
          have HO5 := Lib.hid (ownp_call HL.out.own hg5 HL.out.st.hR)
          have HM := Lib.hid (HMU.out j 93 w5 hr5)
          unfold RetP at HM
          clear hg5 hr5 hz5 HI HL
          cases hmu : Cd.must s.data.toList j 93 with
          | bad jb =>
            rw [hmu] at HM HQT
            clear hmu
            go_wp2_with fail
            refine HM.out.mono ?_
            rintro e w6 ⟨hgw, rfl⟩
            rw [HQT.out]
            exact ⟨rfl, grown_trans HS5.out.g hgw, rfl⟩
          | ok u k2 =>
            rw [hmu] at HM HQT
            clear hmu
            go_wp2_with fail
            refine HM.out.mono ?_
            rintro e w6 ⟨hg6, hr6, _, rfl, rfl⟩
            obtain ⟨Ak, ck, rfl⟩ := HO5.out.form
            have HS6 := Lib.hid (HS5.out.call hg6 hr6)
            have HO6 := Lib.hid (ownp_call HO5.out hg6 HS5.out.hR)
            clear hg6 hr6 HM
            have hx6 := HS6.out.x
            have hz6 := HS6.out.z
            unfold kcells at hx6
            obtain ⟨g0, g1, g2, g3, g4, g5, g6, g7, g8, g9, g10⟩ := box_cells hx6
            obtain ⟨z0, z1, z2, z3, z4, z5, z6, z7, z8, z9, z10⟩ := box_cells hz6
            obtain ⟨y0, y1, y2, y3, y4, y5, y6, y7, y8, y9, y10⟩ := box_free hz6
            have HZ6 := Lib.hid hz6
            clear hx6 hz6
            go_wp2_with fail
            rw [set_box HZ6.out]
            refine bodyPost_ret (results_cell_row Tryz.results144 _ _ w.heap.size 114 _ (0, 0) _ rfl (setRow_heap _ _ _ _ _ _ HZ6.out) Tryz.underlying114 rfl (by kernel_rfl)) rfl ?_
            exact ret_kids HS6.out HO6.out (by decide) HQT.out
        · have hjs := Cd.sees_lt' hsee
          have HT := Lib.hid (fun (jb : Nat) (hp : p (j + 1) = .bad jb) => (HL.out.tot).symm.trans (Cd.rest_bad hsee HL.out.fuel hp))
          have HM := Lib.hid (fun (y : Cd.Item) (j1 : Nat) (hp : p (j + 1) = .ok y j1) (hk : j + 1 ≤ j1) => Cd.rest_more (xs := xs) hsee HL.out.fuel hp hk)
          have HSE := Lib.hid hsee
          clear hsee
          go_wp2_with fail
          refine HI.out.mono ?_
          rintro e w5 ⟨he, hg5, hr5, hz5⟩
          rw [HSE.out] at he hr5
          subst he
          rw [if_pos rfl] at hr5
          have HS5 := Lib.hid (HL.out.st.call hg5 hr5)
          have HO5 := Lib.hid (ownp_call HL.out.own hg5 HL.out.st.hR)
          have HG := Lib.hid (fun (n : Nat) => HIN.out (j + 1) (w5.drewN n) (hr5.keep rfl))
          unfold RetP at HG
          have x10 := (in_box HS5.out.x 10).1
          simp [kcells] at x10
          have hmo := HMO.out (j + 1)
          clear hg5 hr5 hz5 HI
          cases hq : p (j + 1) with
          | bad jb =>
            rw [hq] at HG
            have HQB : Hid (Cd.partG s.data.toList k = .bad jb) := Lib.hid (by rw [HQ3.out, HT.out jb hq]; rfl)
            clear hq hmo
            go_upto_region 5 with fail
            go_region_dies
            all_goals
              refine (HG.out 1).mono ?_
              rintro e w6 ⟨hgw, rfl⟩
              rw [HQB.out]
              exact ⟨rfl, grown_trans (grown_drew' HS5.out.g 1) hgw, rfl⟩
          | ok y j2 =>
            rw [hq] at HG hmo
            have hj2 : j + 1 ≤ j2 := hmo
            have HM2 := Lib.hid (HM.out y j2 hq hj2)
            obtain ⟨Ak, ck, rfl⟩ := HO5.out.form
            clear hq hmo
            have HONE : Hid (∀ (z2 : Int) (A2 : Option Addr) (c2 : Nat), ∀ u ∈ encNz y.node z2 ++ [.string (Cd.bs y.code), .int .i64 y.pos, .slice A2 y.kids.length c2], u.oneCell' = true) := Lib.hid fun z2 A2 c2 u hu => by (simp [encNz] at hu; rcases hu with rfl | rfl | rfl | rfl | rfl | rfl | rfl | rfl | rfl | rfl | rfl <;> rfl)
            have HFEW : Hid (xs.length ≤ 2000000) := Lib.hid (by have := HL.out.few; have := HL.out.st.r.le; omega)
            go_upto_region 5 with fail
            go_region_law (first
              | (go_simp; refine (HG.out 1).mono ?_; rintro e w6 ⟨hgw, hrw, _, rfl, z2, A2, c2, rfl, hsgy, hky⟩; have HS6 := Lib.hid ((HS5.out.below (drew_below 1)).call hgw hrw); have HO6 := Lib.hid (ownp_call (HO5.out.aside (row := none) (grown_of_below (drew_below 1)) (fun _ e => by cases e)) hgw HS5.out.hR);
                 have HB7 : Hid (Below w6.heap.size w6 (w6.alloc (.cells #[.int .i64 y.node.kind, .int .i64 y.node.depth, .int .i64 z2, .int .i64 y.node.turn, .bool y.node.mirror, .int .i64 y.node.state, .int .i64 y.node.lo, .int .i64 y.node.hi, .string (Cd.bs y.code), .int .i64 y.pos, .slice A2 y.kids.length c2] 114))) := Lib.hid ((Below.refl _ _).alloc (Nat.le_refl _) _);
                 have HO7 : Hid (OwnP X (w6.alloc (.cells #[.int .i64 y.node.kind, .int .i64 y.node.depth, .int .i64 z2, .int .i64 y.node.turn, .bool y.node.mirror, .int .i64 y.node.state, .int .i64 y.node.lo, .int .i64 y.node.hi, .string (Cd.bs y.code), .int .i64 y.pos, .slice A2 y.kids.length c2] 114)) (w.heap.size + 1) (.slice Ak xs.length ck) xs) := Lib.hid (HO6.out.aside (row := none) (grown_of_below HB7.out) (fun _ e => by cases e));
                 have HS7 : Hid (St w R (.iface 96 (.agg #[])) s j2 X (kcells 7 (.slice Ak xs.length ck)) (w6.alloc (.cells #[.int .i64 y.node.kind, .int .i64 y.node.depth, .int .i64 z2, .int .i64 y.node.turn, .bool y.node.mirror, .int .i64 y.node.state, .int .i64 y.node.lo, .int .i64 y.node.hi, .string (Cd.bs y.code), .int .i64 y.pos, .slice A2 y.kids.length c2] 114))) := Lib.hid (HS6.out.below HB7.out);
                 have HNEW : Hid ((w6.alloc (.cells #[.int .i64 y.node.kind, .int .i64 y.node.depth, .int .i64 z2, .int .i64 y.node.turn, .bool y.node.mirror, .int .i64 y.node.state, .int .i64 y.node.lo, .int .i64 y.node.hi, .string (Cd.bs y.code), .int .i64 y.pos, .slice A2 y.kids.length c2] 114)).heap[w6.heap.size]? = some (.cells #[.int .i64 y.node.kind, .int .i64 y.node.depth, .int .i64 z2, .int .i64 y.node.turn, .bool y.node.mirror, .int .i64 y.node.state, .int .i64 y.node.lo, .int .i64 y.node.hi, .string (Cd.bs y.code), .int .i64 y.pos, .slice A2 y.kids.length c2] 114 (0, 0))) := Lib.hid (heap_alloc_new _ _);
                 have hsz7 : (w6.alloc (.cells #[.int .i64 y.node.kind, .int .i64 y.node.depth, .int .i64 z2, .int .i64 y.node.turn, .bool y.node.mirror, .int .i64 y.node.state, .int .i64 y.node.lo, .int .i64 y.node.hi, .string (Cd.bs y.code), .int .i64 y.pos, .slice A2 y.kids.length c2] 114)).heap.size = w6.heap.size + 1 := by simp;
                 have HXLT : Hid (X < (w6.alloc (.cells #[.int .i64 y.node.kind, .int .i64 y.node.depth, .int .i64 z2, .int .i64 y.node.turn, .bool y.node.mirror, .int .i64 y.node.state, .int .i64 y.node.lo, .int .i64 y.node.hi, .string (Cd.bs y.code), .int .i64 y.pos, .slice A2 y.kids.length c2] 114)).heap.size) := Lib.hid (lt_of_some HS7.out.x);
                 have HBASE : Hid (w.heap.size + 1 ≤ (w6.alloc (.cells #[.int .i64 y.node.kind, .int .i64 y.node.depth, .int .i64 z2, .int .i64 y.node.turn, .bool y.node.mirror, .int .i64 y.node.state, .int .i64 y.node.lo, .int .i64 y.node.hi, .string (Cd.bs y.code), .int .i64 y.pos, .slice A2 y.kids.length c2] 114)).heap.size) := Lib.hid (lt_of_some HS7.out.z);
                 have HRD7 : Hid ((KI S0).rd (w6.alloc (.cells #[.int .i64 y.node.kind, .int .i64 y.node.depth, .int .i64 z2, .int .i64 y.node.turn, .bool y.node.mirror, .int .i64 y.node.state, .int .i64 y.node.lo, .int .i64 y.node.hi, .string (Cd.bs y.code), .int .i64 y.pos, .slice A2 y.kids.length c2] 114)) (fun b => b < (w6.alloc (.cells #[.int .i64 y.node.kind, .int .i64 y.node.depth, .int .i64 z2, .int .i64 y.node.turn, .bool y.node.mirror, .int .i64 y.node.state, .int .i64 y.node.lo, .int .i64 y.node.hi, .string (Cd.bs y.code), .int .i64 y.pos, .slice A2 y.kids.length c2] 114)).heap.size ∧ (Value.slice Ak xs.length ck).ownBlock ≠ some b ∧ w.heap.size + 1 ≤ b ∧ b ≠ X) (encNz y.node z2 ++ [.string (Cd.bs y.code), .int .i64 y.pos, .slice A2 y.kids.length c2]) y) := Lib.hid (ki_mk hsgy (hky.keep fun b hb => (by have h1 : w5.heap.size ≤ b := hb.1; have h2 := lt_of_some HS5.out.x; have h3 := lt_of_some HS5.out.z; exact ⟨⟨by rw [hsz7]; have := hb.2; omega, fun e => by have := (HO5.out.own.lt b e).2; omega, by omega, by omega⟩, HB7.out.block b hb.2⟩)));
                 have x10' := (in_box HS6.out.x 10).1; simp [kcells] at x10'; have hx6 := lt_of_some HS6.out.x; clear hgw hrw hsgy hky hsz7; unfold aggI)
              | (refine step_append_itemP (X := X) (v := .slice Ak xs.length ck) rfl (.tmp 17) (.tmp 20) rfl y rfl HO7.out w6.heap.size 1 (encNz y.node z2 ++ [.string (Cd.bs y.code), .int .i64 y.pos, .slice A2 y.kids.length c2]) rfl (by decide) HNEW.out (HONE.out z2 A2 c2) HRD7.out HFEW.out HBASE.out HXLT.out ?_; intro v8 w8 hown8 hg8; have HO8 := Lib.hid hown8; have HS8 : Hid (St w R (.iface 96 (.agg #[])) s j2 X (kcells 7 (.slice Ak xs.length ck)) w8) := Lib.hid (st_own HS7.out HO7.out hg8); have x10 := (in_box HS8.out.x 10).1; have y10 := (in_box HS8.out.x 10).2; simp [kcells] at x10; obtain ⟨Av, cv8, rfl⟩ := hown8.form; clear hown8 hg8))
            all_goals
              obtain ⟨n2, hn2, hT2⟩ := HM2.out
              have HS9 : Hid (St w R (.iface 96 (.agg #[])) s j2 X (kcells 7 (.slice Av (xs.length + 1) cv8)) (w8.setCell ⟨X, 10, none⟩ (.slice Av (xs.length + 1) cv8))) := Lib.hid (HS8.out.set 10 _)
              have ho8 := HO8.out
              rw [List.length_append, List.length_singleton] at ho8
              have HO9 : Hid (OwnP X (w8.setCell ⟨X, 10, none⟩ (.slice Av (xs.length + 1) cv8)) (w.heap.size + 1) (.slice Av (xs.length + 1) cv8) (xs ++ [y])) := Lib.hid (ho8.aside (grown_set _ _ _ _) fun q e => by cases e; exact .inr rfl)
              clear ho8
              go_wp2_with fail
              go_roundg (s.size - j2 + 1)
              case measure => have := HS9.out.r.le; simp at hjs; omega
              case rel => exact ⟨xs ++ [y], j2, n2, _, rfl, HS9.out, HO9.out, by rw [← hT2]; exact HL.out.tot, hn2, by simp, by have := HL.out.few; simp; omega, by have := HL.out.le; omega⟩
end Go.Proofs.YtenmkbpdkfhbjaaGreat
