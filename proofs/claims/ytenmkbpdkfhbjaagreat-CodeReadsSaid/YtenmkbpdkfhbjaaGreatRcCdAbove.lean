/- The program's reader: a row. Made by gen_cdbes.py.; The program's reader: a column. -/
import Derived.Test.YtenmkbpdkfhbjaaGreatRcCdKids
namespace Go.Proofs.YtenmkbpdkfhbjaaGreat
open Go Go.RowKit

def vlO (w : World) (ok : Nat → Prop) (v : Value) (p : Cd.Item × Bool) : Prop := ∃ u, v = .tuple #[u, .bool p.2] ∧ VI S0 w ok u p.1
theorem sees_next {s : ByteArray} {k : Nat} {c : UInt8} (hc : 0 < c.toNat) : (nextB s k == (c.toNat : Int)) = Cd.sees s.data.toList k c := by
 unfold nextB Cd.sees
 cases s.data.toList[k]? with
 | none => simp; omega
 | some d =>
  simp only
  by_cases h : d = c
  ·subst h; simp
  ·have : ¬ d.toNat = c.toNat := fun e => h (UInt8.toNat_inj.1 e)
   simp [h]
   omega
theorem grown_own {w W W' : World} {r row : Option Nat} (h : w.grownBy W r) (hg : W.grownBy W' row) (hrow : ∀ g, row = some g → w.heap.size ≤ g) : w.grownBy W' r :=
 ⟨hg.os.trans h.os, hg.tape.trans h.tape, hg.output.trans h.output, Nat.le_trans h.size hg.size, fun i hi hne => (hg.block i (Nat.lt_of_lt_of_le hi h.size) (fun e => by have := hrow i e.symm; omega)).trans (h.block i hi hne)⟩
structure Loop (w : World) (R : Nat) (s : ByteArray) (p : Nat → Cd.R Cd.Item) (c : UInt8) (T : Cd.R (List Cd.Item)) (k j n : Nat) (kv : Value) (xs : List Cd.Item) (W : World) : Prop where
 st : St0 w R (.iface 96 (.agg #[])) s j W
 own : OwnG (KI S0) 114 W (w.heap.size + 1) kv xs
 tot : Cd.cont xs (Cd.restG s.data.toList p c n j) = T
 fuel : s.data.toList.length - j < n
 pos : 0 < xs.length
 few : xs.length ≤ j + 1
 le : k ≤ j
theorem Loop.below {w W W' : World} {R : Nat} {s : ByteArray} {p : Nat → Cd.R Cd.Item} {c : UInt8} {T : Cd.R (List Cd.Item)} {k j n : Nat} {kv : Value} {xs : List Cd.Item} (h : Loop w R s p c T k j n kv xs W) (hb : Below W.heap.size W W') : Loop w R s p c T k j n kv xs W' :=
 ⟨h.st.below hb, h.own.kept hb, h.tot, h.fuel, h.pos, h.few, h.le⟩
theorem own_call {w W W' : World} {R : Nat} {kv : Value} {xs : List Cd.Item} (h : OwnG (KI S0) 114 W (w.heap.size + 1) kv xs) (hg : W.grownBy W' (some R)) (hR : R < w.heap.size) : OwnG (KI S0) 114 W' (w.heap.size + 1) kv xs :=
 h.aside hg fun k e => by cases e; omega
theorem own_len {w W : World} {kv : Value} {xs : List Cd.Item} (h : OwnG (KI S0) 114 W (w.heap.size + 1) kv xs) : ∃ A c, kv = .slice A xs.length c := h.form
set_option maxRecDepth 100000 in
set_option maxHeartbeats 8000000 in
theorem beside_any (R : Nat) (s : ByteArray) (ov : Nat → Cd.R (Cd.Item × Bool)) (k : Nat) (w : World) (h : RdrIs R (.iface 96 (.agg #[])) s k w) (hs : s.size ≤ 1000000)
  (hov : ∀ (j : Nat) (W : World), k ≤ j → RdrIs R (.iface 96 (.agg #[])) s j W → Calls Tryz.prog 157 #[.pointer (some ⟨R, 0, none⟩)] W (RetP R (.iface 96 (.agg #[])) s vlO (ov j) W)) (hmono : ∀ j, j ≤ (ov j).pos) :
  Calls Tryz.prog 151 #[.pointer (some ⟨R, 0, none⟩)] w (RetP R (.iface 96 (.agg #[])) s (VI S0) (Cd.besideG s.data.toList ov k) w) := by
 have HIS := Lib.hid (fun (j : Nat) (c : UInt8) (W : World) (hr : RdrIs R (.iface 96 (.agg #[])) s j W) => is_any R (.iface 96 (.agg #[])) s j c W hr hs)
 have HOV := Lib.hid hov
 have HMO := Lib.hid hmono
 have HQ := Lib.hid (Cd.beside_rest (s := s.data.toList) ov k)
 clear hov hmono
 obtain ⟨W1, hW1⟩ : ∃ W1, W1 = w.alloc (.cells #[.int .i64 0, .int .i64 0, .int .i64 0, .int .i64 0, .bool false, .int .i64 0, .int .i64 0, .int .i64 0, .string ⟨#[]⟩, .int .i64 0, .slice none 0 0] 114) := ⟨_, rfl⟩
 have HS1 : Hid (St0 w R (.iface 96 (.agg #[])) s k W1) := Lib.hid (by rw [hW1]; exact St0.start h)
 have HW1 := Lib.hid hW1
 clear h hW1
 go_enter Tryz.func151, Tryz.ntmps151
 go_upto_region 1 with fail
 rw [← HW1.out]
 have HG := Lib.hid (HOV.out k W1 (Nat.le_refl _) HS1.out.r)
 unfold RetP at HG
 cases hq : ov k with
 | bad jb =>
  rw [hq] at HG HQ
  clear hq
  go_wp2_with fail
  refine HG.out.mono ?_
  rintro e w2 ⟨hgw, rfl⟩
  rw [HQ.out]
  exact ⟨rfl, grown_trans HS1.out.g hgw, rfl⟩
 | ok xb k1 =>
  obtain ⟨x, b⟩ := xb
  rw [hq] at HG HQ
  have hm := HMO.out k
  rw [hq] at hm
  have hk1 : k ≤ k1 := hm
  clear hq hm
  go_wp2_with fail
  refine HG.out.mono ?_
  rintro e w2 ⟨hgw, hrw, _, rfl, _, rfl, z, A, c, rfl, hsg, hk⟩
  have HS2 := Lib.hid (HS1.out.call hgw hrw)
  have HRD : Hid ((KI S0).rd w2 (fun b => b < w2.heap.size ∧ w.heap.size + 1 ≤ b) (encNz x.node z ++ [.string (Cd.bs x.code), .int .i64 x.pos, .slice A x.kids.length c]) x) := Lib.hid (ki_mk hsg (hk.keep fun b hb => ⟨⟨hb.2, by have := lt_of_some HS1.out.z; omega⟩, rfl⟩))
  clear hgw hrw hsg hk HG
  unfold aggI
  go_upto_region 3 with fail
  obtain ⟨w3, hw3⟩ : ∃ w3, w3 = (w2.alloc (.cells #[.int .i64 x.node.kind, .int .i64 x.node.depth, .int .i64 z, .int .i64 x.node.turn, .bool x.node.mirror, .int .i64 x.node.state, .int .i64 x.node.lo, .int .i64 x.node.hi, .string (Cd.bs x.code), .int .i64 x.pos, .slice A x.kids.length c] 114)).alloc (.cells #[.int .i64 x.node.kind, .int .i64 x.node.depth, .int .i64 z, .int .i64 x.node.turn, .bool x.node.mirror, .int .i64 x.node.state, .int .i64 x.node.lo, .int .i64 x.node.hi, .string (Cd.bs x.code), .int .i64 x.pos, .slice A x.kids.length c] 114) := ⟨_, rfl⟩
  rw [← hw3]
  have hba : Below w2.heap.size w2 (w2.alloc (.cells #[.int .i64 x.node.kind, .int .i64 x.node.depth, .int .i64 z, .int .i64 x.node.turn, .bool x.node.mirror, .int .i64 x.node.state, .int .i64 x.node.lo, .int .i64 x.node.hi, .string (Cd.bs x.code), .int .i64 x.pos, .slice A x.kids.length c] 114)) := (Below.refl _ _).alloc (Nat.le_refl _) _
  have hbw : Below w2.heap.size w2 w3 := by rw [hw3]; exact hba.alloc (by simp) _
  have hown : OwnG (KI S0) 114 w3 (w.heap.size + 1) (.slice (some ⟨w2.heap.size + 1, 0, none⟩) 1 1) [x] := by
   rw [hw3]
   have q := OwnG.made (e := 114) (w := w2.alloc (.cells #[.int .i64 x.node.kind, .int .i64 x.node.depth, .int .i64 z, .int .i64 x.node.turn, .bool x.node.mirror, .int .i64 x.node.state, .int .i64 x.node.lo, .int .i64 x.node.hi, .string (Cd.bs x.code), .int .i64 x.pos, .slice A x.kids.length c] 114)) (base := w.heap.size + 1) (K := KI S0) (by have := lt_of_some HS2.out.z; simp; omega) rfl ((KI S0).keep (fun b hb => ⟨⟨by simp; omega, hb.2⟩, hba.block b hb.1⟩) HRD.out)
   have hsz : (w2.alloc (.cells #[.int .i64 x.node.kind, .int .i64 x.node.depth, .int .i64 z, .int .i64 x.node.turn, .bool x.node.mirror, .int .i64 x.node.state, .int .i64 x.node.lo, .int .i64 x.node.hi, .string (Cd.bs x.code), .int .i64 x.pos, .slice A x.kids.length c] 114)).heap.size = w2.heap.size + 1 := by simp
   rw [hsz] at q
   exact q
  obtain ⟨T, hT⟩ : ∃ T, T = Cd.cont [x] (Cd.restG s.data.toList (fun j => (ov j).bind fun y j1 => .ok y.1 j1) 42 (Cd.N s.data.toList) k1) := ⟨_, rfl⟩
  have HQ2 : Hid (Cd.besideG s.data.toList ov k = if b = true ∧ Cd.sees s.data.toList k1 42 = false then .bad k1 else T.bind fun xs k2 => .ok (Cd.one 2 xs) k2) := Lib.hid (by rw [HQ.out, hT]; rfl)
  have HL3 : Hid (Loop w R s (fun j => (ov j).bind fun y j1 => .ok y.1 j1) 42 T k k1 (Cd.N s.data.toList) (.slice (some ⟨w2.heap.size + 1, 0, none⟩) 1 1) [x] w3) := Lib.hid ⟨HS2.out.below hbw, hown, hT.symm, by unfold Cd.N; omega, by simp, by simp, hk1⟩
  have HN3 := Lib.hid (next_any R (.iface 96 (.agg #[])) s k1 w3 HL3.out.st.r)
  unfold RetN at HN3
  have HSE := Lib.hid (sees_next (s := s) (k := k1) (c := 42) (by decide))
  clear hw3 hba hbw hown hT HQ
  generalize hm3 : nextB s k1 = m at HN3 HSE
  clear hm3
  obtain ⟨se, hse⟩ : ∃ se, se = Cd.sees s.data.toList k1 42 := ⟨_, rfl⟩
  rw [← hse] at HSE HQ2
  have hne : (m == 42) = se := HSE.out
  clear hse HSE
  go_cut [20] (fun t wc => t = .bool (b && !se) ∧ Below w3.heap.size w3 wc)
  case first =>
   cases b
   ·go_wp2_with fail
    go_meet
    case rel => exact ⟨rfl, Below.refl _ _⟩
   ·cases se
    ·have hne2 : (m != 42) = true := by simp at hne ⊢; exact hne
     go_wp2_with fail
     refine HN3.out.mono ?_
     rintro e w4 ⟨rfl, hb4⟩
     have HB4 := Lib.hid hb4
     clear hb4
     go_wp2_with fail
     go_meet
     case rel => exact ⟨rfl, HB4.out⟩
    ·have hne2 : (m != 42) = false := by simp at hne ⊢; exact hne
     go_wp2_with fail
     refine HN3.out.mono ?_
     rintro e w4 ⟨rfl, hb4⟩
     have HB4 := Lib.hid hb4
     clear hb4
     go_wp2_with fail
     go_meet
     case rel => exact ⟨rfl, HB4.out⟩
  case rest =>
   obtain ⟨rfl, hbc⟩ := hcut
   have HL4 := Lib.hid (HL3.out.below hbc)
   clear hbc hne
   cases hbs : (b && !se)
   case true =>
    have HQB : Hid (Cd.besideG s.data.toList ov k = .bad k1) := Lib.hid (by rw [HQ2.out, if_pos (by simpa using hbs)])
    have HF := Lib.hid (fail_any R (.iface 96 (.agg #[])) s k1 wc HL4.out.st.r)
    clear hbs
    go_wp2_with fail
    refine HF.out.mono ?_
    rintro e w5 ⟨rfl, hb5⟩
    rw [HQB.out]
    exact ⟨rfl, grown_below HL4.out.st.g hb5, rfl⟩
   case false =>
    have HQ3 : Hid (Cd.besideG s.data.toList ov k = T.bind fun xs k2 => .ok (Cd.one 2 xs) k2) := Lib.hid (by rw [HQ2.out, if_neg (by rw [← Bool.not_eq_true] at hbs; simpa using hbs)])
    clear hbs
    go_wp2_with fail
    go_loopg [5] (s.size - k1 + 1) (fun g kq wr => ∃ xs j n kv, g = s.size - j + 1 ∧ kv = kq ∧ Loop w R s (fun j => (ov j).bind fun y j1 => .ok y.1 j1) 42 T k j n kv xs wr)
    case atStart => exact ⟨[x], k1, _, _, rfl, rfl, HL4.out⟩
    case round =>
     obtain ⟨xs, j, n, kv, rfl, rfl, hl⟩ := hrel
     have HL := Lib.hid hl
     have HI := Lib.hid (HIS.out j 42 wr hl.st.r)
     clear hl
     cases hsee : Cd.sees s.data.toList j 42
     ·have HT : Hid (T = .ok xs j) := Lib.hid (by rw [← HL.out.tot]; exact Cd.rest_stop hsee)
      have HQT : Hid (Cd.besideG s.data.toList ov k = .ok (Cd.one 2 xs) j) := Lib.hid (by rw [HQ3.out, HT.out]; rfl)
      have HSE := Lib.hid hsee
      clear hsee
      go_wp2_with fail
      refine HI.out.mono ?_
      rintro e w5 ⟨he, hg5, hr5, hz5⟩
      rw [HSE.out] at he hr5
      subst he
      rw [if_neg Bool.false_ne_true] at hr5
      have HL5 : Hid (Loop w R s (fun j => (ov j).bind fun y j1 => .ok y.1 j1) 42 T k j n kv xs w5) := Lib.hid ⟨HL.out.st.call hg5 hr5, own_call HL.out.own hg5 HL.out.st.hR, HL.out.tot, HL.out.fuel, HL.out.pos, HL.out.few, HL.out.le⟩
      clear hg5 hr5 hz5 HI HL
      obtain ⟨Ak, ck, rfl⟩ := own_len HL5.out.own
      have HO := Lib.hid (one_any 2 xs Ak ck _ w5 HL5.out.own.head (fun b hb => hb.1) (by decide) HL5.out.pos (by have := HL5.out.few; have := HL5.out.st.r.le; omega))
      go_wp2_with fail
      refine HO.out.mono ?_
      rintro e w9 ⟨_, rfl, ⟨z9, A9, c9, rfl, hsg9, hk9⟩, hb9⟩
      have HS9 := Lib.hid (HL5.out.st.below hb9)
      have hz9 := HS9.out.z
      obtain ⟨z0, z1, z2, z3, z4, z5, z6, z7, z8, z9', z10⟩ := box_cells hz9
      obtain ⟨y0, y1, y2, y3, y4, y5, y6, y7, y8, y9, y10⟩ := box_free hz9
      have HZ9 := Lib.hid hz9
      have HSG9 := Lib.hid hsg9
      have HK9 := Lib.hid hk9
      have HB9 := Lib.hid hb9.size
      clear hz9 hsg9 hk9 hb9
      unfold aggI
      go_wp2_with fail
      rw [set_box HZ9.out]
      obtain ⟨f1, f2, f3, f4⟩ := ret_box HZ9.out HS9.out.g HS9.out.r HS9.out.hR (rowI (Cd.one 2 xs).node z9 (Cd.bs (Cd.one 2 xs).code) (Cd.one 2 xs).pos (.slice A9 (Cd.one 2 xs).kids.length c9))
      refine bodyPost_ret (results_cell_row Tryz.results151 _ _ w.heap.size 114 _ (0, 0) _ rfl f3 Tryz.underlying114 rfl (by kernel_rfl)) rfl ?_
      rw [HQT.out]
      have hlz := lt_of_some HS9.out.z
      have hsz := HB9.out
      exact ⟨f1, f2, _, rfl, z9, A9, c9, rfl, HSG9.out, HK9.out.keep fun b hb => ⟨⟨by omega, by rw [setRow_size]; omega⟩, f4 b (by omega)⟩⟩
     ·have hjs := Cd.sees_lt' hsee
      have HT := Lib.hid (fun (jb : Nat) (hp : ((ov (j + 1)).bind fun y j1 => Cd.R.ok y.1 j1) = .bad jb) => (HL.out.tot).symm.trans (Cd.rest_bad hsee HL.out.fuel hp))
      have HM := Lib.hid (fun (y : Cd.Item) (j1 : Nat) (hp : ((ov (j + 1)).bind fun y j1 => Cd.R.ok y.1 j1) = .ok y j1) (hk : j + 1 ≤ j1) => Cd.rest_more (xs := xs) (p := fun j => (ov j).bind fun y j1 => Cd.R.ok y.1 j1) hsee HL.out.fuel hp hk)
      have HSE := Lib.hid hsee
      clear hsee
      go_wp2_with fail
      refine HI.out.mono ?_
      rintro e w5 ⟨he, hg5, hr5, hz5⟩
      rw [HSE.out] at he hr5
      subst he
      rw [if_pos rfl] at hr5
      have HS5 := Lib.hid (HL.out.st.call hg5 hr5)
      have HO5 := Lib.hid (own_call HL.out.own hg5 HL.out.st.hR)
      have HG := Lib.hid (HOV.out (j + 1) w5 (by have := HL.out.le; omega) hr5)
      unfold RetP at HG
      clear hg5 hr5 hz5 HI
      cases hq : ov (j + 1) with
      | bad jb =>
       rw [hq] at HG
       have HQB : Hid (Cd.besideG s.data.toList ov k = .bad jb) := Lib.hid (by rw [HQ3.out, HT.out jb (by rw [hq]; rfl)]; rfl)
       clear hq
       go_wp2_with fail
       refine HG.out.mono ?_
       rintro e w6 ⟨hgw, rfl⟩
       rw [HQB.out]
       exact ⟨rfl, grown_trans HS5.out.g hgw, rfl⟩
      | ok yb j2 =>
       obtain ⟨y, b2⟩ := yb
       rw [hq] at HG
       have hm := HMO.out (j + 1)
       rw [hq] at hm
       have hj2 : j + 1 ≤ j2 := hm
       have HM2 := Lib.hid (HM.out y j2 (by rw [hq]; rfl) hj2)
       clear hq hm
       go_wp2_with fail
       refine HG.out.mono ?_
       rintro e w6 ⟨hgw, hrw, _, rfl, _, rfl, z2, A2, c2, rfl, hsg, hk⟩
       have HS6 := Lib.hid (HS5.out.call hgw hrw)
       have HO6 := Lib.hid (own_call HO5.out hgw HS5.out.hR)
       have HGZ := Lib.hid hgw.size
       have HLT := Lib.hid (fun g (e : kv.ownBlock = some g) => (HO5.out.lt g e).2)
       have HRD : Hid ((KI S0).rd w6 (fun b => b < w6.heap.size ∧ kv.ownBlock ≠ some b ∧ w.heap.size + 1 ≤ b) (encNz y.node z2 ++ [.string (Cd.bs y.code), .int .i64 y.pos, .slice A2 y.kids.length c2]) y) := Lib.hid (ki_mk hsg (hk.keep fun b hb => ⟨⟨hb.2, fun e => by have := HLT.out b e; omega, by have := lt_of_some HS5.out.z; omega⟩, rfl⟩))
       clear hgw hrw hsg hk HG
       obtain ⟨Ak, ck, rfl⟩ := own_len HL.out.own
       have hbA : Below w6.heap.size w6 (w6.alloc (.cells #[.int .i64 y.node.kind, .int .i64 y.node.depth, .int .i64 z2, .int .i64 y.node.turn, .bool y.node.mirror, .int .i64 y.node.state, .int .i64 y.node.lo, .int .i64 y.node.hi, .string (Cd.bs y.code), .int .i64 y.pos, .slice A2 y.kids.length c2] 114)) := (Below.refl _ _).alloc (Nat.le_refl _) _
       have hszA : (w6.alloc (.cells #[.int .i64 y.node.kind, .int .i64 y.node.depth, .int .i64 z2, .int .i64 y.node.turn, .bool y.node.mirror, .int .i64 y.node.state, .int .i64 y.node.lo, .int .i64 y.node.hi, .string (Cd.bs y.code), .int .i64 y.pos, .slice A2 y.kids.length c2] 114)).heap.size = w6.heap.size + 1 := by simp
       have hbB : Below w6.heap.size w6 ((w6.alloc (.cells #[.int .i64 y.node.kind, .int .i64 y.node.depth, .int .i64 z2, .int .i64 y.node.turn, .bool y.node.mirror, .int .i64 y.node.state, .int .i64 y.node.lo, .int .i64 y.node.hi, .string (Cd.bs y.code), .int .i64 y.pos, .slice A2 y.kids.length c2] 114)).alloc (.cells #[.int .i64 y.node.kind, .int .i64 y.node.depth, .int .i64 z2, .int .i64 y.node.turn, .bool y.node.mirror, .int .i64 y.node.state, .int .i64 y.node.lo, .int .i64 y.node.hi, .string (Cd.bs y.code), .int .i64 y.pos, .slice A2 y.kids.length c2] 114)) := hbA.alloc (by simp) _
       have hszB : ((w6.alloc (.cells #[.int .i64 y.node.kind, .int .i64 y.node.depth, .int .i64 z2, .int .i64 y.node.turn, .bool y.node.mirror, .int .i64 y.node.state, .int .i64 y.node.lo, .int .i64 y.node.hi, .string (Cd.bs y.code), .int .i64 y.pos, .slice A2 y.kids.length c2] 114)).alloc (.cells #[.int .i64 y.node.kind, .int .i64 y.node.depth, .int .i64 z2, .int .i64 y.node.turn, .bool y.node.mirror, .int .i64 y.node.state, .int .i64 y.node.lo, .int .i64 y.node.hi, .string (Cd.bs y.code), .int .i64 y.pos, .slice A2 y.kids.length c2] 114)).heap.size = w6.heap.size + 2 := by simp
       have hnew : ((w6.alloc (.cells #[.int .i64 y.node.kind, .int .i64 y.node.depth, .int .i64 z2, .int .i64 y.node.turn, .bool y.node.mirror, .int .i64 y.node.state, .int .i64 y.node.lo, .int .i64 y.node.hi, .string (Cd.bs y.code), .int .i64 y.pos, .slice A2 y.kids.length c2] 114)).alloc (.cells #[.int .i64 y.node.kind, .int .i64 y.node.depth, .int .i64 z2, .int .i64 y.node.turn, .bool y.node.mirror, .int .i64 y.node.state, .int .i64 y.node.lo, .int .i64 y.node.hi, .string (Cd.bs y.code), .int .i64 y.pos, .slice A2 y.kids.length c2] 114)).heap[w6.heap.size + 1]? = some (.cells #[.int .i64 y.node.kind, .int .i64 y.node.depth, .int .i64 z2, .int .i64 y.node.turn, .bool y.node.mirror, .int .i64 y.node.state, .int .i64 y.node.lo, .int .i64 y.node.hi, .string (Cd.bs y.code), .int .i64 y.pos, .slice A2 y.kids.length c2] 114 (0, 0)) := by rw [← hszA]; exact heap_alloc_new _ _
       have HBB := Lib.hid hbB
       have HSZB := Lib.hid hszB
       have HNEW := Lib.hid hnew
       clear hbA hszA hbB hszB hnew
       unfold aggI
       go_wp2_with (at_builtin; go_loud (refine wpList_append_item (S := S0) rfl (.tmp 30) (.tmp 32) rfl (w.heap.size + 1) (.slice Ak xs.length ck) xs y rfl ?ho (w6.heap.size + 1) 1 (encNz y.node z2 ++ [.string (Cd.bs y.code), .int .i64 y.pos, .slice A2 y.kids.length c2]) rfl ?hc ?hb ?h1 ?hrd ?hn ?hbase ?_))
       case ho => exact HO6.out.kept HBB.out
       case hc => decide
       case hb => exact HNEW.out
       case h1 => exact fun u hu => by (simp [encNz] at hu; rcases hu with rfl | rfl | rfl | rfl | rfl | rfl | rfl | rfl | rfl | rfl | rfl <;> rfl)
       case hrd => exact (KI S0).keep (fun b hb => ⟨⟨Nat.lt_of_lt_of_le hb.1 HBB.out.size, hb.2⟩, HBB.out.block b hb.1⟩) HRD.out
       case hn => have := HL.out.few; have := HL.out.st.r.le; omega
       case hbase => have := HSZB.out; have := lt_of_some HS6.out.z; omega
       intro v7 w7 hown7 hg7
       have HO7 := Lib.hid hown7
       have HS7 : Hid (St0 w R (.iface 96 (.agg #[])) s j2 w7) := Lib.hid (by
        have h8 := HS6.out.below HBB.out
        have hne : ∀ b, b ≤ w.heap.size → some b ≠ (Value.slice Ak xs.length ck).ownBlock := fun b hb e => by have := (HO6.out.lt b e.symm).1; omega
        exact ⟨grown_own h8.g hg7 (fun g ho => by have := (HO6.out.lt g ho).1; omega), h8.r.keep (hg7.block R h8.r.at.2.2.2.2 (hne R (by have := h8.hR; omega))), (hg7.block _ (lt_of_some h8.z) (hne _ (Nat.le_refl _))).trans h8.z, h8.hR⟩)
       clear hown7 hg7
       go_wp2_with fail
       obtain ⟨n2, hn2, hT2⟩ := HM2.out
       go_roundg (s.size - j2 + 1)
       case measure => have := HS7.out.r.le; simp at hjs; omega
       case rel => exact ⟨xs ++ [y], j2, n2, v7, rfl, rfl, HS7.out, HO7.out, by rw [← hT2]; exact HL.out.tot, hn2, by simp, by have := HL.out.few; simp; omega, by have := HL.out.le; omega⟩
end Go.Proofs.YtenmkbpdkfhbjaaGreat
namespace Go.Proofs.YtenmkbpdkfhbjaaGreat
open Go Go.RowKit

set_option maxRecDepth 100000 in
set_option maxHeartbeats 8000000 in
theorem above_any (R : Nat) (s : ByteArray) (ov : Nat → Cd.R (Cd.Item × Bool)) (b : Bool) (k : Nat) (w : World) (h : RdrIs R (.iface 96 (.agg #[])) s k w) (hs : s.size ≤ 1000000)
  (hov : ∀ (j : Nat) (W : World), k ≤ j → RdrIs R (.iface 96 (.agg #[])) s j W → Calls Tryz.prog 157 #[.pointer (some ⟨R, 0, none⟩)] W (RetP R (.iface 96 (.agg #[])) s vlO (ov j) W)) (hmono : ∀ j, j ≤ (ov j).pos) :
  Calls Tryz.prog 148 #[.pointer (some ⟨R, 0, none⟩), .bool b] w (RetP R (.iface 96 (.agg #[])) s (VI S0) (Cd.aboveG s.data.toList ov b k) w) := by
 have HIS := Lib.hid (fun (j : Nat) (c : UInt8) (W : World) (hr : RdrIs R (.iface 96 (.agg #[])) s j W) => is_any R (.iface 96 (.agg #[])) s j c W hr hs)
 have HOV := Lib.hid (fun (j : Nat) (W : World) (hj : k ≤ j) (hr : RdrIs R (.iface 96 (.agg #[])) s j W) => beside_any R s ov j W hr hs (fun i U hi => hov i U (Nat.le_trans hj hi)) hmono)
 have HMO := Lib.hid (fun j => Cd.beside_mono (s := s.data.toList) hmono j)
 have HQ := Lib.hid (Cd.above_rest (s := s.data.toList) ov b k)
 clear hov hmono
 obtain ⟨W1, hW1⟩ : ∃ W1, W1 = w.alloc (.cells #[.int .i64 0, .int .i64 0, .int .i64 0, .int .i64 0, .bool false, .int .i64 0, .int .i64 0, .int .i64 0, .string ⟨#[]⟩, .int .i64 0, .slice none 0 0] 114) := ⟨_, rfl⟩
 have HS1 : Hid (St0 w R (.iface 96 (.agg #[])) s k W1) := Lib.hid (by rw [hW1]; exact St0.start h)
 have HW1 := Lib.hid hW1
 clear h hW1
 go_enter Tryz.func148, Tryz.ntmps148
 go_upto_region 1 with fail
 rw [← HW1.out]
 have HG := Lib.hid (HOV.out k W1 (Nat.le_refl _) HS1.out.r)
 unfold RetP at HG
 cases hq : Cd.besideG s.data.toList ov k with
 | bad jb =>
  rw [hq] at HG HQ
  clear hq
  go_wp2_with fail
  refine HG.out.mono ?_
  rintro e w2 ⟨hgw, rfl⟩
  rw [HQ.out]
  exact ⟨rfl, grown_trans HS1.out.g hgw, rfl⟩
 | ok x k1 =>
  rw [hq] at HG HQ
  have hm := HMO.out k
  rw [hq] at hm
  have hk1 : k ≤ k1 := hm
  clear hq hm
  go_wp2_with fail
  refine HG.out.mono ?_
  rintro e w2 ⟨hgw, hrw, _, rfl, z, A, c, rfl, hsg, hk⟩
  have HS2 := Lib.hid (HS1.out.call hgw hrw)
  have HRD : Hid ((KI S0).rd w2 (fun b => b < w2.heap.size ∧ w.heap.size + 1 ≤ b) (encNz x.node z ++ [.string (Cd.bs x.code), .int .i64 x.pos, .slice A x.kids.length c]) x) := Lib.hid (ki_mk hsg (hk.keep fun b hb => ⟨⟨hb.2, by have := lt_of_some HS1.out.z; omega⟩, rfl⟩))
  clear hgw hrw hsg hk HG
  unfold aggI
  go_upto_region 2 with fail
  obtain ⟨w3, hw3⟩ : ∃ w3, w3 = w2.alloc (.cells #[.int .i64 x.node.kind, .int .i64 x.node.depth, .int .i64 z, .int .i64 x.node.turn, .bool x.node.mirror, .int .i64 x.node.state, .int .i64 x.node.lo, .int .i64 x.node.hi, .string (Cd.bs x.code), .int .i64 x.pos, .slice A x.kids.length c] 114) := ⟨_, rfl⟩
  rw [← hw3]
  have hbw : Below w2.heap.size w2 w3 := by rw [hw3]; exact (Below.refl _ _).alloc (Nat.le_refl _) _
  have hown : OwnG (KI S0) 114 w3 (w.heap.size + 1) (.slice (some ⟨w2.heap.size, 0, none⟩) 1 1) [x] := by
   rw [hw3]
   exact OwnG.made (e := 114) (w := w2) (base := w.heap.size + 1) (K := KI S0) (by have := lt_of_some HS2.out.z; omega) rfl HRD.out
  obtain ⟨T, hT⟩ : ∃ T, T = Cd.cont [x] (Cd.restG s.data.toList (Cd.besideG s.data.toList ov) 58 (Cd.N s.data.toList) k1) := ⟨_, rfl⟩
  have HQ2 : Hid (Cd.aboveG s.data.toList ov b k = if b = true ∧ Cd.sees s.data.toList k1 58 = false then .bad k1 else T.bind fun xs k2 => .ok (Cd.one 3 xs) k2) := Lib.hid (by rw [HQ.out, hT]; rfl)
  have HL3 : Hid (Loop w R s (Cd.besideG s.data.toList ov) 58 T k k1 (Cd.N s.data.toList) (.slice (some ⟨w2.heap.size, 0, none⟩) 1 1) [x] w3) := Lib.hid ⟨HS2.out.below hbw, hown, hT.symm, by unfold Cd.N; omega, by simp, by simp, hk1⟩
  have HN3 := Lib.hid (next_any R (.iface 96 (.agg #[])) s k1 w3 HL3.out.st.r)
  unfold RetN at HN3
  have HSE := Lib.hid (sees_next (s := s) (k := k1) (c := 58) (by decide))
  clear hw3 hbw hown hT HQ
  generalize hm3 : nextB s k1 = m at HN3 HSE
  clear hm3
  obtain ⟨se, hse⟩ : ∃ se, se = Cd.sees s.data.toList k1 58 := ⟨_, rfl⟩
  rw [← hse] at HSE HQ2
  have hne : (m == 58) = se := HSE.out
  clear hse HSE
  go_cut [14] (fun t wc => t = .bool (b && !se) ∧ Below w3.heap.size w3 wc)
  case first =>
   cases b
   ·go_wp2_with fail
    go_meet
    case rel => exact ⟨rfl, Below.refl _ _⟩
   ·cases se
    ·have hne2 : (m != 58) = true := by simp at hne ⊢; exact hne
     go_wp2_with fail
     refine HN3.out.mono ?_
     rintro e w4 ⟨rfl, hb4⟩
     have HB4 := Lib.hid hb4
     clear hb4
     go_wp2_with fail
     go_meet
     case rel => exact ⟨rfl, HB4.out⟩
    ·have hne2 : (m != 58) = false := by simp at hne ⊢; exact hne
     go_wp2_with fail
     refine HN3.out.mono ?_
     rintro e w4 ⟨rfl, hb4⟩
     have HB4 := Lib.hid hb4
     clear hb4
     go_wp2_with fail
     go_meet
     case rel => exact ⟨rfl, HB4.out⟩
  case rest =>
   obtain ⟨rfl, hbc⟩ := hcut
   have HL4 := Lib.hid (HL3.out.below hbc)
   clear hbc hne
   cases hbs : (b && !se)
   case true =>
    have HQB : Hid (Cd.aboveG s.data.toList ov b k = .bad k1) := Lib.hid (by rw [HQ2.out, if_pos (by simpa using hbs)])
    have HF := Lib.hid (fail_any R (.iface 96 (.agg #[])) s k1 wc HL4.out.st.r)
    clear hbs
    go_wp2_with fail
    refine HF.out.mono ?_
    rintro e w5 ⟨rfl, hb5⟩
    rw [HQB.out]
    exact ⟨rfl, grown_below HL4.out.st.g hb5, rfl⟩
   case false =>
    have HQ3 : Hid (Cd.aboveG s.data.toList ov b k = T.bind fun xs k2 => .ok (Cd.one 3 xs) k2) := Lib.hid (by rw [HQ2.out, if_neg (by rw [← Bool.not_eq_true] at hbs; simpa using hbs)])
    clear hbs
    go_wp2_with fail
    go_loopg [5] (s.size - k1 + 1) (fun g kq wr => ∃ xs j n kv, g = s.size - j + 1 ∧ kv = kq ∧ Loop w R s (Cd.besideG s.data.toList ov) 58 T k j n kv xs wr)
    case atStart => exact ⟨[x], k1, _, _, rfl, rfl, HL4.out⟩
    case round =>
     obtain ⟨xs, j, n, kv, rfl, rfl, hl⟩ := hrel
     have HL := Lib.hid hl
     have HI := Lib.hid (HIS.out j 58 wr hl.st.r)
     clear hl
     cases hsee : Cd.sees s.data.toList j 58
     ·have HT : Hid (T = .ok xs j) := Lib.hid (by rw [← HL.out.tot]; exact Cd.rest_stop hsee)
      have HQT : Hid (Cd.aboveG s.data.toList ov b k = .ok (Cd.one 3 xs) j) := Lib.hid (by rw [HQ3.out, HT.out]; rfl)
      have HSE := Lib.hid hsee
      clear hsee
      go_wp2_with fail
      refine HI.out.mono ?_
      rintro e w5 ⟨he, hg5, hr5, hz5⟩
      rw [HSE.out] at he hr5
      subst he
      rw [if_neg Bool.false_ne_true] at hr5
      have HL5 : Hid (Loop w R s (Cd.besideG s.data.toList ov) 58 T k j n kv xs w5) := Lib.hid ⟨HL.out.st.call hg5 hr5, own_call HL.out.own hg5 HL.out.st.hR, HL.out.tot, HL.out.fuel, HL.out.pos, HL.out.few, HL.out.le⟩
      clear hg5 hr5 hz5 HI HL
      obtain ⟨Ak, ck, rfl⟩ := own_len HL5.out.own
      have HO := Lib.hid (one_any 3 xs Ak ck _ w5 HL5.out.own.head (fun b hb => hb.1) (by decide) HL5.out.pos (by have := HL5.out.few; have := HL5.out.st.r.le; omega))
      go_wp2_with fail
      refine HO.out.mono ?_
      rintro e w9 ⟨_, rfl, ⟨z9, A9, c9, rfl, hsg9, hk9⟩, hb9⟩
      have HS9 := Lib.hid (HL5.out.st.below hb9)
      have hz9 := HS9.out.z
      obtain ⟨z0, z1, z2, z3, z4, z5, z6, z7, z8, z9', z10⟩ := box_cells hz9
      obtain ⟨y0, y1, y2, y3, y4, y5, y6, y7, y8, y9, y10⟩ := box_free hz9
      have HZ9 := Lib.hid hz9
      have HSG9 := Lib.hid hsg9
      have HK9 := Lib.hid hk9
      have HB9 := Lib.hid hb9.size
      clear hz9 hsg9 hk9 hb9
      unfold aggI
      go_wp2_with fail
      rw [set_box HZ9.out]
      obtain ⟨f1, f2, f3, f4⟩ := ret_box HZ9.out HS9.out.g HS9.out.r HS9.out.hR (rowI (Cd.one 3 xs).node z9 (Cd.bs (Cd.one 3 xs).code) (Cd.one 3 xs).pos (.slice A9 (Cd.one 3 xs).kids.length c9))
      refine bodyPost_ret (results_cell_row Tryz.results148 _ _ w.heap.size 114 _ (0, 0) _ rfl f3 Tryz.underlying114 rfl (by kernel_rfl)) rfl ?_
      rw [HQT.out]
      have hlz := lt_of_some HS9.out.z
      have hsz := HB9.out
      exact ⟨f1, f2, _, rfl, z9, A9, c9, rfl, HSG9.out, HK9.out.keep fun b hb => ⟨⟨by omega, by rw [setRow_size]; omega⟩, f4 b (by omega)⟩⟩
     ·have hjs := Cd.sees_lt' hsee
      have HT := Lib.hid (fun (jb : Nat) (hp : Cd.besideG s.data.toList ov (j + 1) = .bad jb) => (HL.out.tot).symm.trans (Cd.rest_bad hsee HL.out.fuel hp))
      have HM := Lib.hid (fun (y : Cd.Item) (j1 : Nat) (hp : Cd.besideG s.data.toList ov (j + 1) = .ok y j1) (hk : j + 1 ≤ j1) => Cd.rest_more (xs := xs) (p := Cd.besideG s.data.toList ov) hsee HL.out.fuel hp hk)
      have HSE := Lib.hid hsee
      clear hsee
      go_wp2_with fail
      refine HI.out.mono ?_
      rintro e w5 ⟨he, hg5, hr5, hz5⟩
      rw [HSE.out] at he hr5
      subst he
      rw [if_pos rfl] at hr5
      have HS5 := Lib.hid (HL.out.st.call hg5 hr5)
      have HO5 := Lib.hid (own_call HL.out.own hg5 HL.out.st.hR)
      have HG := Lib.hid (HOV.out (j + 1) w5 (by have := HL.out.le; omega) hr5)
      unfold RetP at HG
      clear hg5 hr5 hz5 HI
      cases hq : Cd.besideG s.data.toList ov (j + 1) with
      | bad jb =>
       rw [hq] at HG
       have HQB : Hid (Cd.aboveG s.data.toList ov b k = .bad jb) := Lib.hid (by rw [HQ3.out, HT.out jb hq]; rfl)
       clear hq
       go_wp2_with fail
       refine HG.out.mono ?_
       rintro e w6 ⟨hgw, rfl⟩
       rw [HQB.out]
       exact ⟨rfl, grown_trans HS5.out.g hgw, rfl⟩
      | ok y j2 =>
       rw [hq] at HG
       have hm := HMO.out (j + 1)
       rw [hq] at hm
       have hj2 : j + 1 ≤ j2 := hm
       have HM2 := Lib.hid (HM.out y j2 hq hj2)
       clear hq hm
       go_wp2_with fail
       refine HG.out.mono ?_
       rintro e w6 ⟨hgw, hrw, _, rfl, z2, A2, c2, rfl, hsg, hk⟩
       have HS6 := Lib.hid (HS5.out.call hgw hrw)
       have HO6 := Lib.hid (own_call HO5.out hgw HS5.out.hR)
       have HGZ := Lib.hid hgw.size
       have HLT := Lib.hid (fun g (e : kv.ownBlock = some g) => (HO5.out.lt g e).2)
       have HRD : Hid ((KI S0).rd w6 (fun b => b < w6.heap.size ∧ kv.ownBlock ≠ some b ∧ w.heap.size + 1 ≤ b) (encNz y.node z2 ++ [.string (Cd.bs y.code), .int .i64 y.pos, .slice A2 y.kids.length c2]) y) := Lib.hid (ki_mk hsg (hk.keep fun b hb => ⟨⟨hb.2, fun e => by have := HLT.out b e; omega, by have := lt_of_some HS5.out.z; omega⟩, rfl⟩))
       clear hgw hrw hsg hk HG
       obtain ⟨Ak, ck, rfl⟩ := own_len HL.out.own
       have hbB : Below w6.heap.size w6 (w6.alloc (.cells #[.int .i64 y.node.kind, .int .i64 y.node.depth, .int .i64 z2, .int .i64 y.node.turn, .bool y.node.mirror, .int .i64 y.node.state, .int .i64 y.node.lo, .int .i64 y.node.hi, .string (Cd.bs y.code), .int .i64 y.pos, .slice A2 y.kids.length c2] 114)) := (Below.refl _ _).alloc (Nat.le_refl _) _
       have hszB : (w6.alloc (.cells #[.int .i64 y.node.kind, .int .i64 y.node.depth, .int .i64 z2, .int .i64 y.node.turn, .bool y.node.mirror, .int .i64 y.node.state, .int .i64 y.node.lo, .int .i64 y.node.hi, .string (Cd.bs y.code), .int .i64 y.pos, .slice A2 y.kids.length c2] 114)).heap.size = w6.heap.size + 1 := by simp
       have hnew : (w6.alloc (.cells #[.int .i64 y.node.kind, .int .i64 y.node.depth, .int .i64 z2, .int .i64 y.node.turn, .bool y.node.mirror, .int .i64 y.node.state, .int .i64 y.node.lo, .int .i64 y.node.hi, .string (Cd.bs y.code), .int .i64 y.pos, .slice A2 y.kids.length c2] 114)).heap[w6.heap.size]? = some (.cells #[.int .i64 y.node.kind, .int .i64 y.node.depth, .int .i64 z2, .int .i64 y.node.turn, .bool y.node.mirror, .int .i64 y.node.state, .int .i64 y.node.lo, .int .i64 y.node.hi, .string (Cd.bs y.code), .int .i64 y.pos, .slice A2 y.kids.length c2] 114 (0, 0)) := heap_alloc_new _ _
       have HBB := Lib.hid hbB
       have HSZB := Lib.hid hszB
       have HNEW := Lib.hid hnew
       clear hbB hszB hnew
       unfold aggI
       go_wp2_with (at_builtin; go_loud (refine wpList_append_item (S := S0) rfl (.tmp 19) (.tmp 22) rfl (w.heap.size + 1) (.slice Ak xs.length ck) xs y rfl ?ho (w6.heap.size) 1 (encNz y.node z2 ++ [.string (Cd.bs y.code), .int .i64 y.pos, .slice A2 y.kids.length c2]) rfl ?hc ?hb ?h1 ?hrd ?hn ?hbase ?_))
       case ho => exact HO6.out.kept HBB.out
       case hc => decide
       case hb => exact HNEW.out
       case h1 => exact fun u hu => by (simp [encNz] at hu; rcases hu with rfl | rfl | rfl | rfl | rfl | rfl | rfl | rfl | rfl | rfl | rfl <;> rfl)
       case hrd => exact (KI S0).keep (fun b hb => ⟨⟨Nat.lt_of_lt_of_le hb.1 HBB.out.size, hb.2⟩, HBB.out.block b hb.1⟩) HRD.out
       case hn => have := HL.out.few; have := HL.out.st.r.le; omega
       case hbase => have := HSZB.out; have := lt_of_some HS6.out.z; omega
       intro v7 w7 hown7 hg7
       have HO7 := Lib.hid hown7
       have HS7 : Hid (St0 w R (.iface 96 (.agg #[])) s j2 w7) := Lib.hid (by
        have h8 := HS6.out.below HBB.out
        have hne : ∀ b, b ≤ w.heap.size → some b ≠ (Value.slice Ak xs.length ck).ownBlock := fun b hb e => by have := (HO6.out.lt b e.symm).1; omega
        exact ⟨grown_own h8.g hg7 (fun g ho => by have := (HO6.out.lt g ho).1; omega), h8.r.keep (hg7.block R h8.r.at.2.2.2.2 (hne R (by have := h8.hR; omega))), (hg7.block _ (lt_of_some h8.z) (hne _ (Nat.le_refl _))).trans h8.z, h8.hR⟩)
       clear hown7 hg7
       go_wp2_with fail
       obtain ⟨n2, hn2, hT2⟩ := HM2.out
       go_roundg (s.size - j2 + 1)
       case measure => have := HS7.out.r.le; simp at hjs; omega
       case rel => exact ⟨xs ++ [y], j2, n2, v7, rfl, rfl, HS7.out, HO7.out, by rw [← hT2]; exact HL.out.tot, hn2, by simp, by have := HL.out.few; simp; omega, by have := HL.out.le; omega⟩
end Go.Proofs.YtenmkbpdkfhbjaaGreat
