/- CodeReads: Read returns what the document specifies, for every string: the walk. -/
import Derived.Test.YtenmkbpdkfhbjaaGreatRcC3Same
import Derived.Test.YtenmkbpdkfhbjaaGreatRcLawCdOneWay
import Derived.Test.YtenmkbpdkfhbjaaGreatRcIdle
namespace Cd
theorem read_short {kind : Int} {l : Sg.SList} {s : List UInt8} {ns : List Tx.Node} {k e : Int} (h : readV kind l s = (ns, k, e)) : ns.length ≤ 200 := by
 by_cases he : e = 0
 ·subst he
  exact (valid_of (read_way h).2.1).2
 ·have := read_err (kind := kind) (l := l) (s := s) (by rw [h]; exact he)
  rw [h] at this
  have h1 := this.1
  simp only at h1
  rw [h1]
  simp
end Cd
namespace Go.Proofs.YtenmkbpdkfhbjaaGreat
open Go Go.RowKit

theorem own_box {w : World} {base g n : Nat} {v u : Value} {xs : List Value} {c : Array Value} (h : w.ownsRow base 59 8 v n xs) (hz : w.heap[g]? = some (.cells c 27 (0, 0))) : (w.setCell ⟨g, 0, none⟩ u).ownsRow base 59 8 v n xs := by
 refine h.kept (grown_set w g 0 u) ?_
 rcases h.2 with ⟨rfl, _⟩ | ⟨g', cap, cur, rfl, hg', hh, _⟩
 ·exact .inl rfl
 ·refine .inr fun e => ?_
  have e2 : g' = g := by simpa [Value.ownBlock] using e
  subst e2
  rw [hz] at hh
  injection hh with hh
  injection hh with _ hh
  exact absurd hh (by decide)
structure RdsR (T0 : Array Value) (W0 : World) (l : Sg.SList) (A0 : Option Addr) (c0 : Nat) (kind : Int) (tx : ByteArray) (Z : Nat) (ns : List Tx.Node) (pt er : Int) (d : Array Bool) (t : Array Value) (wc : World) : Prop where
 bel : Below W0.heap.size W0 wc
 siz : t.size = 51
 kp : ∀ i, i ∉ ([3, 4, 5, 12, 13, 14, 15, 16, 17, 18, 19, 20, 21, 22, 23] : List Nat) → t[i]? = T0[i]?
 k1 : t[1]? = some (.pointer (some ⟨Z, 0, none⟩))
 p0 : dn d 0 → t[13]? = some (.pointer (some ⟨Z, 2, none⟩))
 p1 : dn d 1 → t[14]? = some (.int .i64 kind)
 p2 : dn d 2 → t[15]? = some (.pointer (some ⟨Z, 0, none⟩))
 p3 : dn d 3 → t[16]? = some (.agg #[.int .i64 l.periods, .slice A0 l.signs.length c0])
 p5 : dn d 5 → t[18]? = some (.pointer (some ⟨Z, 3, none⟩))
 p6 : dn d 6 → t[19]? = some (.string tx)
 p10 : dn d 10 → t[22]? = some (.int .i64 pt)
 p11 : dn d 11 → t[23]? = some (.int .i64 er)
 p14 : dn d 14 → t[4]? = some (.int .i64 pt)
 p15 : dn d 15 → t[5]? = some (.int .i64 er)
 l1 : dn d 1 → dn d 0
 l3 : dn d 3 → dn d 2
 l4 : dn d 4 → dn d 3
 l6 : dn d 6 → dn d 5
 l7 : dn d 7 → dn d 1 ∧ dn d 4 ∧ dn d 6
 l8 : dn d 8 → dn d 7
 l9 : dn d 9 → dn d 8
 l13 : dn d 13 → dn d 9 ∧ dn d 12
 c4 : dn d 4 → ¬ dn d 7 → ∃ A c, t[17]? = some (.agg #[.int .i64 l.periods, .slice A l.signs.length c]) ∧ RdSL wc wc.heap.size (.agg #[.int .i64 l.periods, .slice A l.signs.length c]) l
 c7 : dn d 7 → ∃ A c, t[20]? = some (.tuple #[.agg #[.slice A ns.length c], .int .i64 pt, .int .i64 er]) ∧ wc.ownsRow W0.heap.size 59 8 (.slice A ns.length c) ns.length (ns.flatMap encN)
 c8 : dn d 8 → ∃ A c, t[12]? = some (.tuple #[.agg #[.slice A ns.length c], .int .i64 pt, .int .i64 er]) ∧ wc.ownsRow W0.heap.size 59 8 (.slice A ns.length c) ns.length (ns.flatMap encN)
 c9 : dn d 9 → ∃ A c, t[21]? = some (.agg #[.slice A ns.length c]) ∧ wc.ownsRow W0.heap.size 59 8 (.slice A ns.length c) ns.length (ns.flatMap encN)
 c12 : dn d 12 → ¬ dn d 13 → ∃ g, t[3]? = some (.pointer (some ⟨g, 0, none⟩)) ∧ W0.heap.size ≤ g ∧ wc.heap[g]? = some (.cells #[.slice none 0 0] 27 (0, 0))
 c13 : dn d 13 → ∃ g A c, t[3]? = some (.pointer (some ⟨g, 0, none⟩)) ∧ W0.heap.size ≤ g ∧ wc.heap[g]? = some (.cells #[.slice A ns.length c] 27 (0, 0)) ∧ wc.ownsRow W0.heap.size 59 8 (.slice A ns.length c) ns.length (ns.flatMap encN)
def RdsI (T0 : Array Value) (W0 : World) (l : Sg.SList) (A0 : Option Addr) (c0 : Nat) (kind : Int) (tx : ByteArray) (Z : Nat) (ns : List Tx.Node) (pt er : Int) (d : Array Bool) (a : Act) (wc : World) : Prop := ∃ t : Array Value, a = ⟨t, []⟩ ∧ RdsR T0 W0 l A0 c0 kind tx Z ns pt er d t wc
set_option maxRecDepth 100000 in
set_option maxHeartbeats 16000000 in
theorem CodeReads_any (p kind : Int) (us : Value) (l : Sg.SList) (t : ByteArray) (w : World) (hr : RdSL w w.heap.size (.agg #[.int .i64 p, us]) l) (ht : t.size ≤ maxLen) :
  Calls Tryz.prog 4 #[.agg #[.int .i64 p, us, .int .i64 kind, .string t]] w (RetBB true w) := by
 have HL := Lib.hid hr
 obtain ⟨A0, c0, hsh⟩ := rdsl_shape hr
 injection hsh with hsh
 injection hsh with hsh
 injection hsh with hp hsh
 injection hp with _ hp
 injection hsh with hsh _
 subst hp hsh
 have HWK : Hid (∀ W, Calls Tryz.prog 12 #[] W (RetBB true W)) := Lib.hid works3_any
 obtain ⟨Z, hZ⟩ : ∃ Z, Z = w.heap.size := ⟨_, rfl⟩
 have HZ := Lib.hid hZ
 obtain ⟨W1, hW1⟩ : ∃ W1, W1 = w.alloc (.cells #[.int .i64 l.periods, .slice A0 l.signs.length c0, .int .i64 kind, .string t] 41) := ⟨_, rfl⟩
 have hbl : Below w.heap.size w W1 := by rw [hW1]; exact (Below.refl _ _).alloc (Nat.le_refl _) _
 have b1 : W1.heap[Z]? = some (.cells #[.int .i64 l.periods, .slice A0 l.signs.length c0, .int .i64 kind, .string t] 41 (0, 0)) := by rw [hW1, hZ]; exact heap_alloc_new _ _
 have hz1 : Z < W1.heap.size := lt_of_some b1
 have HLX : Hid (∀ W, Below W1.heap.size W1 W → RdSL W W.heap.size (.agg #[.int .i64 l.periods, .slice A0 l.signs.length c0]) l) := Lib.hid fun W q => by
  have hb := hbl.trans (q.mono hbl.size)
  exact HL.out.keep hb.size hb
 have HBW : Hid (∀ W, Below W1.heap.size W1 W → Below w.heap.size w W) := Lib.hid fun W q => hbl.trans (q.mono hbl.size)
 have HX : Hid (∀ W, Below W1.heap.size W1 W → W.cell? ⟨Z, 0, none⟩ = some (.int .i64 l.periods) ∧ W.cell? ⟨Z, 1, none⟩ = some (.slice A0 l.signs.length c0) ∧ W.cell? ⟨Z, 2, none⟩ = some (.int .i64 kind) ∧ W.cell? ⟨Z, 3, none⟩ = some (.string t)) := Lib.hid fun W q => box4_cells ((q.block Z hz1).trans b1)
 obtain ⟨bf, hbf⟩ : ∃ bf, bf = Cd.farB l t := ⟨_, rfl⟩
 have HFAR : Hid (Calls Tryz.prog 18 #[.agg #[.int .i64 l.periods, .slice A0 l.signs.length c0, .int .i64 kind, .string t]] W1 (RetBB bf W1)) := Lib.hid (hbf ▸ law3far_any l.periods kind _ l t W1 (HLX.out W1 (Below.refl _ _)))
 have HBF := Lib.hid hbf
 have HW1 := Lib.hid hW1
 obtain ⟨x0, x1, x2, x3⟩ := HX.out W1 (Below.refl _ _)
 clear hZ hW1 hbl b1 hbf hr
 go_enter Tryz.func4, Tryz.ntmps4
 go_upto_region 1 with fail
 rw [← HZ.out, ← HW1.out]
 go_wp2_with fail
 refine HFAR.out.mono ?_
 rintro e w2 ⟨rfl, hb2⟩
 have HB2 := Lib.hid hb2
 clear hb2 x0 x1 x2 x3 HFAR
 cases bf
 case true =>
  go_wp2_with fail
  refine (HWK.out w2).mono ?_
  rintro e w3 ⟨rfl, hb3⟩
  have HB3 := Lib.hid (HB2.out.trans (hb3.mono HB2.out.size))
  clear hb3
  go_wp2_with fail
  go_ret
  exact ⟨rfl, HBW.out w3 HB3.out⟩
 obtain ⟨hsm, ht3⟩ := far_small HBF.out.symm
 obtain ⟨q, hq⟩ : ∃ q, q = Cd.readV kind l t.data.toList := ⟨_, rfl⟩
 obtain ⟨ns, pt, er⟩ := q
 have HQ : Hid (∀ (W W' : World) (e : Ending), RetRead (Cd.readV kind l t.data.toList) W e W' → ∃ A2 c2, e = .returned (.tuple #[.agg #[.slice A2 ns.length c2], .int .i64 pt, .int .i64 er]) ∧ Below W.heap.size W W' ∧ W'.ownsRow W.heap.size 59 8 (.slice A2 ns.length c2) ns.length (ns.flatMap encN)) := Lib.hid fun W W' e q => by
  rw [← hq] at q
  exact q
 have HCP : Hid (∀ W, Below w2.heap.size w2 W → Calls Tryz.prog 14 #[.agg #[.int .i64 l.periods, .slice A0 l.signs.length c0]] W (fun e w' => ∃ A3 c3, e = .returned (.agg #[.int .i64 l.periods, .slice A3 l.signs.length c3]) ∧ Below W.heap.size W w' ∧ RdSL w' w'.heap.size (.agg #[.int .i64 l.periods, .slice A3 l.signs.length c3]) l)) := Lib.hid fun W q => by
  refine (r1Copy_any _ l W (HLX.out W (HB2.out.trans (q.mono HB2.out.size))) hsm).mono ?_
  rintro e w' ⟨v, q1, q2, q3⟩
  obtain ⟨A3, c3, rfl⟩ := rdsl_shape q2
  exact ⟨A3, c3, q1, q3, q2⟩
 have HC3 : Hid (∀ (W : World) (A3 : Option Addr) (c3 : Nat), RdSL W W.heap.size (.agg #[.int .i64 l.periods, .slice A3 l.signs.length c3]) l → Calls Tryz.prog 19 #[.int .i64 kind, .agg #[.int .i64 l.periods, .slice A3 l.signs.length c3], .string t] W (fun e w' => ∃ A2 c2, e = .returned (.tuple #[.agg #[.slice A2 ns.length c2], .int .i64 pt, .int .i64 er]) ∧ Below W.heap.size W w' ∧ w'.ownsRow W.heap.size 59 8 (.slice A2 ns.length c2) ns.length (ns.flatMap encN))) := Lib.hid fun W A3 c3 q1 =>
  (Read_any kind l _ t ht W q1).mono fun e w' q3 => HQ.out _ _ _ q3
 have HC4 : Hid (∀ (W : World), Below W1.heap.size W1 W → Calls Tryz.prog 20 #[.int .i64 kind, .agg #[.int .i64 l.periods, .slice A0 l.signs.length c0], .string t] W (fun e w' => ∃ A2 c2, e = .returned (.tuple #[.agg #[.slice A2 ns.length c2], .int .i64 pt, .int .i64 er]) ∧ Below W.heap.size W w' ∧ w'.ownsRow W.heap.size 59 8 (.slice A2 ns.length c2) ns.length (ns.flatMap encN))) := Lib.hid fun W q1 =>
  (r3Read_any kind l _ t ht W (HLX.out W q1)).mono fun e w' q3 => HQ.out _ _ _ q3
 have HNL : Hid (ns.length ≤ 200) := Lib.hid (Cd.read_short hq.symm)
 have CL : Hid (∀ W, Below w2.heap.size w2 W → W.cell? ⟨Z, 0, none⟩ = some (.int .i64 l.periods) ∧ W.cell? ⟨Z, 1, none⟩ = some (.slice A0 l.signs.length c0) ∧ W.cell? ⟨Z, 2, none⟩ = some (.int .i64 kind) ∧ W.cell? ⟨Z, 3, none⟩ = some (.string t)) := Lib.hid fun W q => HX.out W (HB2.out.trans (q.mono HB2.out.size))
 obtain ⟨x0, x1, x2, x3⟩ := HX.out w2 HB2.out
 clear hsm hq
 go_upto_region 3 with fail
 refine wp_region_inv2T (fun T0 => RdsI T0 w2 l A0 c0 kind t Z ns pt er) (by kernel_rfl) (by kernel_rfl) ?g0a ?gstepa ?genda
 case g0a =>
  have hno : ∀ j, ¬ dn (Array.replicate 16 false) j := by
   intro j; unfold dn; by_cases hj : j < 16 <;> simp [Array.getD, hj]
  have na : ∀ {j : Nat} {Z : Prop}, dn (Array.replicate 16 false) j → Z := fun hj => absurd hj (hno _)
  exact ⟨_, rfl, { bel := (Below.refl _ _).drew, siz := rfl, kp := fun _ _ => rfl, k1 := rfl, p0 := na, p1 := na, p2 := na, p3 := na, p5 := na, p6 := na, p10 := na, p11 := na, p14 := na, p15 := na, l1 := fun hj => absurd hj (hno _), l3 := fun hj => absurd hj (hno _), l4 := fun hj => absurd hj (hno _), l6 := fun hj => absurd hj (hno _), l7 := fun hj => absurd hj (hno _), l8 := fun hj => absurd hj (hno _), l9 := fun hj => absurd hj (hno _), l13 := fun hj => absurd hj (hno _), c4 := fun hj => absurd hj (hno _), c7 := fun hj => absurd hj (hno _), c8 := fun hj => absurd hj (hno _), c9 := fun hj => absurd hj (hno _), c12 := fun hj => absurd hj (hno _), c13 := fun hj => absurd hj (hno _) }⟩
 case gstepa =>
  intro T0 d a wc i hd hI hi
  obtain ⟨hlt, hnd, hpre⟩ := mem_ready hi
  have hd' : d.size = 16 := hd
  have hin : i < 16 := hlt
  clear hi hd hlt
  obtain ⟨t, rfl, h⟩ := hI
  have hcs : i = 0 ∨ i = 1 ∨ i = 2 ∨ i = 3 ∨ i = 4 ∨ i = 5 ∨ i = 6 ∨ i = 7 ∨ i = 8 ∨ i = 9 ∨ i = 10 ∨ i = 11 ∨ i = 12 ∨ i = 13 ∨ i = 14 ∨ i = 15 := by omega
  rcases hcs with rfl | rfl | rfl | rfl | rfl | rfl | rfl | rfl | rfl | rfl | rfl | rfl | rfl | rfl | rfl | rfl
  ·have hi : 0 < d.size := by omega
   have q1 := h.k1
   refine wpOp_plain rfl rfl ?_
   go_simp
   exact ⟨_, rfl, { bel := h.bel, siz := (by simpa using h.siz), kp := rk h.kp, k1 := rs h.k1, l1 := fun hj => absurd (h.l1 (dn_of hi hj (by decide))) (not_dn hi hnd), l3 := fun hj => dn_up (h.l3 (dn_of hi hj (by decide))), l4 := fun hj => dn_up (h.l4 (dn_of hi hj (by decide))), l6 := fun hj => dn_up (h.l6 (dn_of hi hj (by decide))), l7 := fun hj => (fun q => ⟨dn_up q.1, dn_up q.2.1, dn_up q.2.2⟩) (h.l7 (dn_of hi hj (by decide))), l8 := fun hj => dn_up (h.l8 (dn_of hi hj (by decide))), l9 := fun hj => dn_up (h.l9 (dn_of hi hj (by decide))), l13 := fun hj => (fun q => ⟨dn_up q.1, dn_up q.2⟩) (h.l13 (dn_of hi hj (by decide))), c4 := fun hj hk => by obtain ⟨A, c, e, r⟩ := h.c4 (dn_of hi hj (by decide)) (fun q => hk (dn_up q)); exact ⟨A, c, (set_other (by decide)).trans e, r⟩, c7 := fun hj => by obtain ⟨A, c, e, r⟩ := h.c7 (dn_of hi hj (by decide)); exact ⟨A, c, (set_other (by decide)).trans e, r⟩, c8 := fun hj => by obtain ⟨A, c, e, r⟩ := h.c8 (dn_of hi hj (by decide)); exact ⟨A, c, (set_other (by decide)).trans e, r⟩, c9 := fun hj => by obtain ⟨A, c, e, r⟩ := h.c9 (dn_of hi hj (by decide)); exact ⟨A, c, (set_other (by decide)).trans e, r⟩, c12 := fun hj hk => by obtain ⟨g, e, hg, hz⟩ := h.c12 (dn_of hi hj (by decide)) (fun q => hk (dn_up q)); exact ⟨g, (set_other (by decide)).trans e, hg, hz⟩, c13 := fun hj => absurd (h.l1 (h.l7 (h.l8 (h.l9 (h.l13 (dn_of hi hj (by decide))).1))).1) (not_dn hi hnd), p0 := fun _ => set_same (by have := h.siz; omega), p1 := rp hi h.p1, p2 := rp hi h.p2, p3 := rp hi h.p3, p5 := rp hi h.p5, p6 := rp hi h.p6, p10 := rp hi h.p10, p11 := rp hi h.p11, p14 := rp hi h.p14, p15 := rp hi h.p15 }⟩
  ·have hi : 1 < d.size := by omega
   have e0 := h.p0 (hpre _ rfl ⟨0, .data⟩ (by simp) rfl)
   obtain ⟨m0, m1, m2, m3⟩ := CL.out wc h.bel
   refine wpOp_plain rfl rfl ?_
   go_simp
   exact ⟨_, rfl, { bel := h.bel, siz := (by simpa using h.siz), kp := rk h.kp, k1 := rs h.k1, l1 := fun _ => dn_up (hpre _ rfl ⟨0, .data⟩ (by simp) rfl), l3 := fun hj => dn_up (h.l3 (dn_of hi hj (by decide))), l4 := fun hj => dn_up (h.l4 (dn_of hi hj (by decide))), l6 := fun hj => dn_up (h.l6 (dn_of hi hj (by decide))), l7 := fun hj => absurd (h.l7 (dn_of hi hj (by decide))).1 (not_dn hi hnd), l8 := fun hj => dn_up (h.l8 (dn_of hi hj (by decide))), l9 := fun hj => dn_up (h.l9 (dn_of hi hj (by decide))), l13 := fun hj => (fun q => ⟨dn_up q.1, dn_up q.2⟩) (h.l13 (dn_of hi hj (by decide))), c4 := fun hj hk => by obtain ⟨A, c, e, r⟩ := h.c4 (dn_of hi hj (by decide)) (fun q => hk (dn_up q)); exact ⟨A, c, (set_other (by decide)).trans e, r⟩, c7 := fun hj => by obtain ⟨A, c, e, r⟩ := h.c7 (dn_of hi hj (by decide)); exact ⟨A, c, (set_other (by decide)).trans e, r⟩, c8 := fun hj => by obtain ⟨A, c, e, r⟩ := h.c8 (dn_of hi hj (by decide)); exact ⟨A, c, (set_other (by decide)).trans e, r⟩, c9 := fun hj => by obtain ⟨A, c, e, r⟩ := h.c9 (dn_of hi hj (by decide)); exact ⟨A, c, (set_other (by decide)).trans e, r⟩, c12 := fun hj hk => by obtain ⟨g, e, hg, hz⟩ := h.c12 (dn_of hi hj (by decide)) (fun q => hk (dn_up q)); exact ⟨g, (set_other (by decide)).trans e, hg, hz⟩, c13 := fun hj => absurd ((h.l7 (h.l8 (h.l9 (h.l13 (dn_of hi hj (by decide))).1))).1) (not_dn hi hnd), p0 := rp hi h.p0, p1 := fun _ => set_same (by have := h.siz; omega), p2 := rp hi h.p2, p3 := rp hi h.p3, p5 := rp hi h.p5, p6 := rp hi h.p6, p10 := rp hi h.p10, p11 := rp hi h.p11, p14 := rp hi h.p14, p15 := rp hi h.p15 }⟩
  ·have hi : 2 < d.size := by omega
   have q1 := h.k1
   refine wpOp_plain rfl rfl ?_
   go_simp
   exact ⟨_, rfl, { bel := h.bel, siz := (by simpa using h.siz), kp := rk h.kp, k1 := rs h.k1, l1 := fun hj => dn_up (h.l1 (dn_of hi hj (by decide))), l3 := fun hj => absurd (h.l3 (dn_of hi hj (by decide))) (not_dn hi hnd), l4 := fun hj => dn_up (h.l4 (dn_of hi hj (by decide))), l6 := fun hj => dn_up (h.l6 (dn_of hi hj (by decide))), l7 := fun hj => (fun q => ⟨dn_up q.1, dn_up q.2.1, dn_up q.2.2⟩) (h.l7 (dn_of hi hj (by decide))), l8 := fun hj => dn_up (h.l8 (dn_of hi hj (by decide))), l9 := fun hj => dn_up (h.l9 (dn_of hi hj (by decide))), l13 := fun hj => (fun q => ⟨dn_up q.1, dn_up q.2⟩) (h.l13 (dn_of hi hj (by decide))), c4 := fun hj hk => by obtain ⟨A, c, e, r⟩ := h.c4 (dn_of hi hj (by decide)) (fun q => hk (dn_up q)); exact ⟨A, c, (set_other (by decide)).trans e, r⟩, c7 := fun hj => by obtain ⟨A, c, e, r⟩ := h.c7 (dn_of hi hj (by decide)); exact ⟨A, c, (set_other (by decide)).trans e, r⟩, c8 := fun hj => by obtain ⟨A, c, e, r⟩ := h.c8 (dn_of hi hj (by decide)); exact ⟨A, c, (set_other (by decide)).trans e, r⟩, c9 := fun hj => by obtain ⟨A, c, e, r⟩ := h.c9 (dn_of hi hj (by decide)); exact ⟨A, c, (set_other (by decide)).trans e, r⟩, c12 := fun hj hk => by obtain ⟨g, e, hg, hz⟩ := h.c12 (dn_of hi hj (by decide)) (fun q => hk (dn_up q)); exact ⟨g, (set_other (by decide)).trans e, hg, hz⟩, c13 := fun hj => absurd (h.l3 (h.l4 (h.l7 (h.l8 (h.l9 (h.l13 (dn_of hi hj (by decide))).1))).2.1)) (not_dn hi hnd), p0 := rp hi h.p0, p1 := rp hi h.p1, p2 := fun _ => set_same (by have := h.siz; omega), p3 := rp hi h.p3, p5 := rp hi h.p5, p6 := rp hi h.p6, p10 := rp hi h.p10, p11 := rp hi h.p11, p14 := rp hi h.p14, p15 := rp hi h.p15 }⟩
  ·have hi : 3 < d.size := by omega
   have e2 := h.p2 (hpre _ rfl ⟨2, .data⟩ (by simp) rfl)
   obtain ⟨m0, m1, m2, m3⟩ := CL.out wc h.bel
   refine wpOp_plain rfl rfl ?_
   go_simp
   exact ⟨_, rfl, { bel := h.bel, siz := (by simpa using h.siz), kp := rk h.kp, k1 := rs h.k1, l1 := fun hj => dn_up (h.l1 (dn_of hi hj (by decide))), l3 := fun _ => dn_up (hpre _ rfl ⟨2, .data⟩ (by simp) rfl), l4 := fun hj => absurd (h.l4 (dn_of hi hj (by decide))) (not_dn hi hnd), l6 := fun hj => dn_up (h.l6 (dn_of hi hj (by decide))), l7 := fun hj => (fun q => ⟨dn_up q.1, dn_up q.2.1, dn_up q.2.2⟩) (h.l7 (dn_of hi hj (by decide))), l8 := fun hj => dn_up (h.l8 (dn_of hi hj (by decide))), l9 := fun hj => dn_up (h.l9 (dn_of hi hj (by decide))), l13 := fun hj => (fun q => ⟨dn_up q.1, dn_up q.2⟩) (h.l13 (dn_of hi hj (by decide))), c4 := fun hj hk => by obtain ⟨A, c, e, r⟩ := h.c4 (dn_of hi hj (by decide)) (fun q => hk (dn_up q)); exact ⟨A, c, (set_other (by decide)).trans e, r⟩, c7 := fun hj => by obtain ⟨A, c, e, r⟩ := h.c7 (dn_of hi hj (by decide)); exact ⟨A, c, (set_other (by decide)).trans e, r⟩, c8 := fun hj => by obtain ⟨A, c, e, r⟩ := h.c8 (dn_of hi hj (by decide)); exact ⟨A, c, (set_other (by decide)).trans e, r⟩, c9 := fun hj => by obtain ⟨A, c, e, r⟩ := h.c9 (dn_of hi hj (by decide)); exact ⟨A, c, (set_other (by decide)).trans e, r⟩, c12 := fun hj hk => by obtain ⟨g, e, hg, hz⟩ := h.c12 (dn_of hi hj (by decide)) (fun q => hk (dn_up q)); exact ⟨g, (set_other (by decide)).trans e, hg, hz⟩, c13 := fun hj => absurd (h.l4 (h.l7 (h.l8 (h.l9 (h.l13 (dn_of hi hj (by decide))).1))).2.1) (not_dn hi hnd), p0 := rp hi h.p0, p1 := rp hi h.p1, p2 := rp hi h.p2, p3 := fun _ => set_same (by have := h.siz; omega), p5 := rp hi h.p5, p6 := rp hi h.p6, p10 := rp hi h.p10, p11 := rp hi h.p11, p14 := rp hi h.p14, p15 := rp hi h.p15 }⟩
  ·have hi : 4 < d.size := by omega
   have d3 : dn d 3 := hpre _ rfl ⟨3, .data⟩ (by simp) rfl
   have e3 := h.p3 d3
   refine wpOp_plain rfl rfl ?_
   go_simp
   refine (HCP.out wc h.bel).mono ?_
   rintro e1 w1 ⟨A3, c3, rfl, hb, hq1⟩
   exact ⟨_, rfl, { bel := h.bel.trans (hb.mono h.bel.size), siz := (by simpa using h.siz), kp := rk h.kp, k1 := rs h.k1, l1 := fun hj => dn_up (h.l1 (dn_of hi hj (by decide))), l3 := fun hj => dn_up (h.l3 (dn_of hi hj (by decide))), l4 := fun _ => dn_up (hpre _ rfl ⟨3, .data⟩ (by simp) rfl), l6 := fun hj => dn_up (h.l6 (dn_of hi hj (by decide))), l7 := fun hj => absurd (h.l7 (dn_of hi hj (by decide))).2.1 (not_dn hi hnd), l8 := fun hj => dn_up (h.l8 (dn_of hi hj (by decide))), l9 := fun hj => dn_up (h.l9 (dn_of hi hj (by decide))), l13 := fun hj => (fun q => ⟨dn_up q.1, dn_up q.2⟩) (h.l13 (dn_of hi hj (by decide))), c4 := fun _ _ => ⟨A3, c3, set_same (by have := h.siz; omega), hq1⟩, c7 := fun hj => by obtain ⟨A, c, e, r⟩ := h.c7 (dn_of hi hj (by decide)); exact ⟨A, c, (set_other (by decide)).trans e, own_below r hb⟩, c8 := fun hj => by obtain ⟨A, c, e, r⟩ := h.c8 (dn_of hi hj (by decide)); exact ⟨A, c, (set_other (by decide)).trans e, own_below r hb⟩, c9 := fun hj => by obtain ⟨A, c, e, r⟩ := h.c9 (dn_of hi hj (by decide)); exact ⟨A, c, (set_other (by decide)).trans e, own_below r hb⟩, c12 := fun hj hk => by obtain ⟨g, e, hg, hz⟩ := h.c12 (dn_of hi hj (by decide)) (fun q => hk (dn_up q)); exact ⟨g, (set_other (by decide)).trans e, hg, (hb.block g (Array.getElem?_eq_some_iff.1 hz).1).trans hz⟩, c13 := fun hj => absurd ((h.l7 (h.l8 (h.l9 (h.l13 (dn_of hi hj (by decide))).1))).2.1) (not_dn hi hnd), p0 := rp hi h.p0, p1 := rp hi h.p1, p2 := rp hi h.p2, p3 := rp hi h.p3, p5 := rp hi h.p5, p6 := rp hi h.p6, p10 := rp hi h.p10, p11 := rp hi h.p11, p14 := rp hi h.p14, p15 := rp hi h.p15 }⟩
  ·have hi : 5 < d.size := by omega
   have q1 := h.k1
   refine wpOp_plain rfl rfl ?_
   go_simp
   exact ⟨_, rfl, { bel := h.bel, siz := (by simpa using h.siz), kp := rk h.kp, k1 := rs h.k1, l1 := fun hj => dn_up (h.l1 (dn_of hi hj (by decide))), l3 := fun hj => dn_up (h.l3 (dn_of hi hj (by decide))), l4 := fun hj => dn_up (h.l4 (dn_of hi hj (by decide))), l6 := fun hj => absurd (h.l6 (dn_of hi hj (by decide))) (not_dn hi hnd), l7 := fun hj => (fun q => ⟨dn_up q.1, dn_up q.2.1, dn_up q.2.2⟩) (h.l7 (dn_of hi hj (by decide))), l8 := fun hj => dn_up (h.l8 (dn_of hi hj (by decide))), l9 := fun hj => dn_up (h.l9 (dn_of hi hj (by decide))), l13 := fun hj => (fun q => ⟨dn_up q.1, dn_up q.2⟩) (h.l13 (dn_of hi hj (by decide))), c4 := fun hj hk => by obtain ⟨A, c, e, r⟩ := h.c4 (dn_of hi hj (by decide)) (fun q => hk (dn_up q)); exact ⟨A, c, (set_other (by decide)).trans e, r⟩, c7 := fun hj => by obtain ⟨A, c, e, r⟩ := h.c7 (dn_of hi hj (by decide)); exact ⟨A, c, (set_other (by decide)).trans e, r⟩, c8 := fun hj => by obtain ⟨A, c, e, r⟩ := h.c8 (dn_of hi hj (by decide)); exact ⟨A, c, (set_other (by decide)).trans e, r⟩, c9 := fun hj => by obtain ⟨A, c, e, r⟩ := h.c9 (dn_of hi hj (by decide)); exact ⟨A, c, (set_other (by decide)).trans e, r⟩, c12 := fun hj hk => by obtain ⟨g, e, hg, hz⟩ := h.c12 (dn_of hi hj (by decide)) (fun q => hk (dn_up q)); exact ⟨g, (set_other (by decide)).trans e, hg, hz⟩, c13 := fun hj => absurd (h.l6 (h.l7 (h.l8 (h.l9 (h.l13 (dn_of hi hj (by decide))).1))).2.2) (not_dn hi hnd), p0 := rp hi h.p0, p1 := rp hi h.p1, p2 := rp hi h.p2, p3 := rp hi h.p3, p5 := fun _ => set_same (by have := h.siz; omega), p6 := rp hi h.p6, p10 := rp hi h.p10, p11 := rp hi h.p11, p14 := rp hi h.p14, p15 := rp hi h.p15 }⟩
  ·have hi : 6 < d.size := by omega
   have e5 := h.p5 (hpre _ rfl ⟨5, .data⟩ (by simp) rfl)
   obtain ⟨m0, m1, m2, m3⟩ := CL.out wc h.bel
   refine wpOp_plain rfl rfl ?_
   go_simp
   exact ⟨_, rfl, { bel := h.bel, siz := (by simpa using h.siz), kp := rk h.kp, k1 := rs h.k1, l1 := fun hj => dn_up (h.l1 (dn_of hi hj (by decide))), l3 := fun hj => dn_up (h.l3 (dn_of hi hj (by decide))), l4 := fun hj => dn_up (h.l4 (dn_of hi hj (by decide))), l6 := fun _ => dn_up (hpre _ rfl ⟨5, .data⟩ (by simp) rfl), l7 := fun hj => absurd (h.l7 (dn_of hi hj (by decide))).2.2 (not_dn hi hnd), l8 := fun hj => dn_up (h.l8 (dn_of hi hj (by decide))), l9 := fun hj => dn_up (h.l9 (dn_of hi hj (by decide))), l13 := fun hj => (fun q => ⟨dn_up q.1, dn_up q.2⟩) (h.l13 (dn_of hi hj (by decide))), c4 := fun hj hk => by obtain ⟨A, c, e, r⟩ := h.c4 (dn_of hi hj (by decide)) (fun q => hk (dn_up q)); exact ⟨A, c, (set_other (by decide)).trans e, r⟩, c7 := fun hj => by obtain ⟨A, c, e, r⟩ := h.c7 (dn_of hi hj (by decide)); exact ⟨A, c, (set_other (by decide)).trans e, r⟩, c8 := fun hj => by obtain ⟨A, c, e, r⟩ := h.c8 (dn_of hi hj (by decide)); exact ⟨A, c, (set_other (by decide)).trans e, r⟩, c9 := fun hj => by obtain ⟨A, c, e, r⟩ := h.c9 (dn_of hi hj (by decide)); exact ⟨A, c, (set_other (by decide)).trans e, r⟩, c12 := fun hj hk => by obtain ⟨g, e, hg, hz⟩ := h.c12 (dn_of hi hj (by decide)) (fun q => hk (dn_up q)); exact ⟨g, (set_other (by decide)).trans e, hg, hz⟩, c13 := fun hj => absurd ((h.l7 (h.l8 (h.l9 (h.l13 (dn_of hi hj (by decide))).1))).2.2) (not_dn hi hnd), p0 := rp hi h.p0, p1 := rp hi h.p1, p2 := rp hi h.p2, p3 := rp hi h.p3, p5 := rp hi h.p5, p6 := fun _ => set_same (by have := h.siz; omega), p10 := rp hi h.p10, p11 := rp hi h.p11, p14 := rp hi h.p14, p15 := rp hi h.p15 }⟩
  ·have hi : 7 < d.size := by omega
   have hn7 := not_dn hi hnd
   have d1 : dn d 1 := hpre _ rfl ⟨1, .data⟩ (by simp) rfl
   have d4 : dn d 4 := hpre _ rfl ⟨4, .data⟩ (by simp) rfl
   have d6 : dn d 6 := hpre _ rfl ⟨6, .data⟩ (by simp) rfl
   have e1 := h.p1 d1
   have e6 := h.p6 d6
   obtain ⟨A3, c3, e4, r4⟩ := h.c4 d4 hn7
   refine wpOp_plain rfl rfl ?_
   go_simp
   refine (HC3.out wc A3 c3 r4).mono ?_
   rintro e1 w1 ⟨A7, c7, rfl, hb, ho⟩
   exact ⟨_, rfl, { bel := h.bel.trans (hb.mono h.bel.size), siz := (by simpa using h.siz), kp := rk h.kp, k1 := rs h.k1, l1 := fun hj => dn_up (h.l1 (dn_of hi hj (by decide))), l3 := fun hj => dn_up (h.l3 (dn_of hi hj (by decide))), l4 := fun hj => dn_up (h.l4 (dn_of hi hj (by decide))), l6 := fun hj => dn_up (h.l6 (dn_of hi hj (by decide))), l7 := fun _ => ⟨dn_up (hpre _ rfl ⟨1, .data⟩ (by simp) rfl), dn_up (hpre _ rfl ⟨4, .data⟩ (by simp) rfl), dn_up (hpre _ rfl ⟨6, .data⟩ (by simp) rfl)⟩, l8 := fun hj => absurd (h.l8 (dn_of hi hj (by decide))) (not_dn hi hnd), l9 := fun hj => dn_up (h.l9 (dn_of hi hj (by decide))), l13 := fun hj => (fun q => ⟨dn_up q.1, dn_up q.2⟩) (h.l13 (dn_of hi hj (by decide))), c4 := fun _ hk => absurd (dn_self hi) hk, c7 := fun _ => ⟨A7, c7, set_same (by have := h.siz; omega), ho.mono h.bel.size⟩, c8 := fun hj => by obtain ⟨A, c, e, r⟩ := h.c8 (dn_of hi hj (by decide)); exact ⟨A, c, (set_other (by decide)).trans e, own_below r hb⟩, c9 := fun hj => by obtain ⟨A, c, e, r⟩ := h.c9 (dn_of hi hj (by decide)); exact ⟨A, c, (set_other (by decide)).trans e, own_below r hb⟩, c12 := fun hj hk => by obtain ⟨g, e, hg, hz⟩ := h.c12 (dn_of hi hj (by decide)) (fun q => hk (dn_up q)); exact ⟨g, (set_other (by decide)).trans e, hg, (hb.block g (Array.getElem?_eq_some_iff.1 hz).1).trans hz⟩, c13 := fun hj => absurd (h.l8 (h.l9 (h.l13 (dn_of hi hj (by decide))).1)) (not_dn hi hnd), p0 := rp hi h.p0, p1 := rp hi h.p1, p2 := rp hi h.p2, p3 := rp hi h.p3, p5 := rp hi h.p5, p6 := rp hi h.p6, p10 := rp hi h.p10, p11 := rp hi h.p11, p14 := rp hi h.p14, p15 := rp hi h.p15 }⟩
  ·have hi : 8 < d.size := by omega
   have d7 : dn d 7 := hpre _ rfl ⟨7, .data⟩ (by simp) rfl
   obtain ⟨A7, c7, e7, r7⟩ := h.c7 d7
   refine wpOp_plain rfl rfl ?_
   go_simp
   exact ⟨_, rfl, { bel := h.bel, siz := (by simpa using h.siz), kp := rk h.kp, k1 := rs h.k1, l1 := fun hj => dn_up (h.l1 (dn_of hi hj (by decide))), l3 := fun hj => dn_up (h.l3 (dn_of hi hj (by decide))), l4 := fun hj => dn_up (h.l4 (dn_of hi hj (by decide))), l6 := fun hj => dn_up (h.l6 (dn_of hi hj (by decide))), l7 := fun hj => (fun q => ⟨dn_up q.1, dn_up q.2.1, dn_up q.2.2⟩) (h.l7 (dn_of hi hj (by decide))), l8 := fun _ => dn_up (hpre _ rfl ⟨7, .data⟩ (by simp) rfl), l9 := fun hj => absurd (h.l9 (dn_of hi hj (by decide))) (not_dn hi hnd), l13 := fun hj => (fun q => ⟨dn_up q.1, dn_up q.2⟩) (h.l13 (dn_of hi hj (by decide))), c4 := fun hj hk => by obtain ⟨A, c, e, r⟩ := h.c4 (dn_of hi hj (by decide)) (fun q => hk (dn_up q)); exact ⟨A, c, (set_other (by decide)).trans e, r⟩, c7 := fun hj => by obtain ⟨A, c, e, r⟩ := h.c7 (dn_of hi hj (by decide)); exact ⟨A, c, (set_other (by decide)).trans e, r⟩, c8 := fun _ => ⟨A7, c7, set_same (by have := h.siz; omega), r7⟩, c9 := fun hj => by obtain ⟨A, c, e, r⟩ := h.c9 (dn_of hi hj (by decide)); exact ⟨A, c, (set_other (by decide)).trans e, r⟩, c12 := fun hj hk => by obtain ⟨g, e, hg, hz⟩ := h.c12 (dn_of hi hj (by decide)) (fun q => hk (dn_up q)); exact ⟨g, (set_other (by decide)).trans e, hg, hz⟩, c13 := fun hj => absurd (h.l9 (h.l13 (dn_of hi hj (by decide))).1) (not_dn hi hnd), p0 := rp hi h.p0, p1 := rp hi h.p1, p2 := rp hi h.p2, p3 := rp hi h.p3, p5 := rp hi h.p5, p6 := rp hi h.p6, p10 := rp hi h.p10, p11 := rp hi h.p11, p14 := rp hi h.p14, p15 := rp hi h.p15 }⟩
  ·have hi : 9 < d.size := by omega
   have d8 : dn d 8 := hpre _ rfl ⟨8, .data⟩ (by simp) rfl
   obtain ⟨A7, c7, e8, r8⟩ := h.c8 d8
   refine wpOp_plain rfl rfl ?_
   go_simp
   exact ⟨_, rfl, { bel := h.bel, siz := (by simpa using h.siz), kp := rk h.kp, k1 := rs h.k1, l1 := fun hj => dn_up (h.l1 (dn_of hi hj (by decide))), l3 := fun hj => dn_up (h.l3 (dn_of hi hj (by decide))), l4 := fun hj => dn_up (h.l4 (dn_of hi hj (by decide))), l6 := fun hj => dn_up (h.l6 (dn_of hi hj (by decide))), l7 := fun hj => (fun q => ⟨dn_up q.1, dn_up q.2.1, dn_up q.2.2⟩) (h.l7 (dn_of hi hj (by decide))), l8 := fun hj => dn_up (h.l8 (dn_of hi hj (by decide))), l9 := fun _ => dn_up (hpre _ rfl ⟨8, .data⟩ (by simp) rfl), l13 := fun hj => absurd (h.l13 (dn_of hi hj (by decide))).1 (not_dn hi hnd), c4 := fun hj hk => by obtain ⟨A, c, e, r⟩ := h.c4 (dn_of hi hj (by decide)) (fun q => hk (dn_up q)); exact ⟨A, c, (set_other (by decide)).trans e, r⟩, c7 := fun hj => by obtain ⟨A, c, e, r⟩ := h.c7 (dn_of hi hj (by decide)); exact ⟨A, c, (set_other (by decide)).trans e, r⟩, c8 := fun hj => by obtain ⟨A, c, e, r⟩ := h.c8 (dn_of hi hj (by decide)); exact ⟨A, c, (set_other (by decide)).trans e, r⟩, c9 := fun _ => ⟨A7, c7, set_same (by have := h.siz; omega), r8⟩, c12 := fun hj hk => by obtain ⟨g, e, hg, hz⟩ := h.c12 (dn_of hi hj (by decide)) (fun q => hk (dn_up q)); exact ⟨g, (set_other (by decide)).trans e, hg, hz⟩, c13 := fun hj => absurd ((h.l13 (dn_of hi hj (by decide))).1) (not_dn hi hnd), p0 := rp hi h.p0, p1 := rp hi h.p1, p2 := rp hi h.p2, p3 := rp hi h.p3, p5 := rp hi h.p5, p6 := rp hi h.p6, p10 := rp hi h.p10, p11 := rp hi h.p11, p14 := rp hi h.p14, p15 := rp hi h.p15 }⟩
  ·have hi : 10 < d.size := by omega
   have d8 : dn d 8 := hpre _ rfl ⟨8, .data⟩ (by simp) rfl
   obtain ⟨A7, c7, e8, r8⟩ := h.c8 d8
   refine wpOp_plain rfl rfl ?_
   go_simp
   exact ⟨_, rfl, { bel := h.bel, siz := (by simpa using h.siz), kp := rk h.kp, k1 := rs h.k1, l1 := fun hj => dn_up (h.l1 (dn_of hi hj (by decide))), l3 := fun hj => dn_up (h.l3 (dn_of hi hj (by decide))), l4 := fun hj => dn_up (h.l4 (dn_of hi hj (by decide))), l6 := fun hj => dn_up (h.l6 (dn_of hi hj (by decide))), l7 := fun hj => (fun q => ⟨dn_up q.1, dn_up q.2.1, dn_up q.2.2⟩) (h.l7 (dn_of hi hj (by decide))), l8 := fun hj => dn_up (h.l8 (dn_of hi hj (by decide))), l9 := fun hj => dn_up (h.l9 (dn_of hi hj (by decide))), l13 := fun hj => (fun q => ⟨dn_up q.1, dn_up q.2⟩) (h.l13 (dn_of hi hj (by decide))), c4 := fun hj hk => by obtain ⟨A, c, e, r⟩ := h.c4 (dn_of hi hj (by decide)) (fun q => hk (dn_up q)); exact ⟨A, c, (set_other (by decide)).trans e, r⟩, c7 := fun hj => by obtain ⟨A, c, e, r⟩ := h.c7 (dn_of hi hj (by decide)); exact ⟨A, c, (set_other (by decide)).trans e, r⟩, c8 := fun hj => by obtain ⟨A, c, e, r⟩ := h.c8 (dn_of hi hj (by decide)); exact ⟨A, c, (set_other (by decide)).trans e, r⟩, c9 := fun hj => by obtain ⟨A, c, e, r⟩ := h.c9 (dn_of hi hj (by decide)); exact ⟨A, c, (set_other (by decide)).trans e, r⟩, c12 := fun hj hk => by obtain ⟨g, e, hg, hz⟩ := h.c12 (dn_of hi hj (by decide)) (fun q => hk (dn_up q)); exact ⟨g, (set_other (by decide)).trans e, hg, hz⟩, c13 := fun hj => by obtain ⟨g, A, c, e, hg, hz, hr⟩ := h.c13 (dn_of hi hj (by decide)); exact ⟨g, A, c, (set_other (by decide)).trans e, hg, hz, hr⟩, p0 := rp hi h.p0, p1 := rp hi h.p1, p2 := rp hi h.p2, p3 := rp hi h.p3, p5 := rp hi h.p5, p6 := rp hi h.p6, p10 := fun _ => set_same (by have := h.siz; omega), p11 := rp hi h.p11, p14 := rp hi h.p14, p15 := rp hi h.p15 }⟩
  ·have hi : 11 < d.size := by omega
   have d8 : dn d 8 := hpre _ rfl ⟨8, .data⟩ (by simp) rfl
   obtain ⟨A7, c7, e8, r8⟩ := h.c8 d8
   refine wpOp_plain rfl rfl ?_
   go_simp
   exact ⟨_, rfl, { bel := h.bel, siz := (by simpa using h.siz), kp := rk h.kp, k1 := rs h.k1, l1 := fun hj => dn_up (h.l1 (dn_of hi hj (by decide))), l3 := fun hj => dn_up (h.l3 (dn_of hi hj (by decide))), l4 := fun hj => dn_up (h.l4 (dn_of hi hj (by decide))), l6 := fun hj => dn_up (h.l6 (dn_of hi hj (by decide))), l7 := fun hj => (fun q => ⟨dn_up q.1, dn_up q.2.1, dn_up q.2.2⟩) (h.l7 (dn_of hi hj (by decide))), l8 := fun hj => dn_up (h.l8 (dn_of hi hj (by decide))), l9 := fun hj => dn_up (h.l9 (dn_of hi hj (by decide))), l13 := fun hj => (fun q => ⟨dn_up q.1, dn_up q.2⟩) (h.l13 (dn_of hi hj (by decide))), c4 := fun hj hk => by obtain ⟨A, c, e, r⟩ := h.c4 (dn_of hi hj (by decide)) (fun q => hk (dn_up q)); exact ⟨A, c, (set_other (by decide)).trans e, r⟩, c7 := fun hj => by obtain ⟨A, c, e, r⟩ := h.c7 (dn_of hi hj (by decide)); exact ⟨A, c, (set_other (by decide)).trans e, r⟩, c8 := fun hj => by obtain ⟨A, c, e, r⟩ := h.c8 (dn_of hi hj (by decide)); exact ⟨A, c, (set_other (by decide)).trans e, r⟩, c9 := fun hj => by obtain ⟨A, c, e, r⟩ := h.c9 (dn_of hi hj (by decide)); exact ⟨A, c, (set_other (by decide)).trans e, r⟩, c12 := fun hj hk => by obtain ⟨g, e, hg, hz⟩ := h.c12 (dn_of hi hj (by decide)) (fun q => hk (dn_up q)); exact ⟨g, (set_other (by decide)).trans e, hg, hz⟩, c13 := fun hj => by obtain ⟨g, A, c, e, hg, hz, hr⟩ := h.c13 (dn_of hi hj (by decide)); exact ⟨g, A, c, (set_other (by decide)).trans e, hg, hz, hr⟩, p0 := rp hi h.p0, p1 := rp hi h.p1, p2 := rp hi h.p2, p3 := rp hi h.p3, p5 := rp hi h.p5, p6 := rp hi h.p6, p10 := rp hi h.p10, p11 := fun _ => set_same (by have := h.siz; omega), p14 := rp hi h.p14, p15 := rp hi h.p15 }⟩
  ·have hi : 12 < d.size := by omega
   have hn13 : ¬ dn d 13 := fun q => not_dn hi hnd (h.l13 q).2
   have hb : Below wc.heap.size wc (wc.alloc (.cells #[.slice none 0 0] 27)) := (Below.refl _ _).alloc (Nat.le_refl _) _
   refine wpOp_plain rfl rfl ?_
   go_simp
   exact ⟨_, rfl, { bel := h.bel.trans (hb.mono h.bel.size), siz := (by simpa using h.siz), kp := rk h.kp, k1 := rs h.k1, l1 := fun hj => dn_up (h.l1 (dn_of hi hj (by decide))), l3 := fun hj => dn_up (h.l3 (dn_of hi hj (by decide))), l4 := fun hj => dn_up (h.l4 (dn_of hi hj (by decide))), l6 := fun hj => dn_up (h.l6 (dn_of hi hj (by decide))), l7 := fun hj => (fun q => ⟨dn_up q.1, dn_up q.2.1, dn_up q.2.2⟩) (h.l7 (dn_of hi hj (by decide))), l8 := fun hj => dn_up (h.l8 (dn_of hi hj (by decide))), l9 := fun hj => dn_up (h.l9 (dn_of hi hj (by decide))), l13 := fun hj => absurd (h.l13 (dn_of hi hj (by decide))).2 (not_dn hi hnd), c4 := fun hj hk => by obtain ⟨A, c, e, r⟩ := h.c4 (dn_of hi hj (by decide)) (fun q => hk (dn_up q)); exact ⟨A, c, (set_other (by decide)).trans e, r.on hb⟩, c7 := fun hj => by obtain ⟨A, c, e, r⟩ := h.c7 (dn_of hi hj (by decide)); exact ⟨A, c, (set_other (by decide)).trans e, own_below r hb⟩, c8 := fun hj => by obtain ⟨A, c, e, r⟩ := h.c8 (dn_of hi hj (by decide)); exact ⟨A, c, (set_other (by decide)).trans e, own_below r hb⟩, c9 := fun hj => by obtain ⟨A, c, e, r⟩ := h.c9 (dn_of hi hj (by decide)); exact ⟨A, c, (set_other (by decide)).trans e, own_below r hb⟩, c12 := fun _ _ => ⟨wc.heap.size, set_same (by have := h.siz; omega), h.bel.size, heap_alloc_new _ _⟩, c13 := fun hj => absurd ((h.l13 (dn_of hi hj (by decide))).2) (not_dn hi hnd), p0 := rp hi h.p0, p1 := rp hi h.p1, p2 := rp hi h.p2, p3 := rp hi h.p3, p5 := rp hi h.p5, p6 := rp hi h.p6, p10 := rp hi h.p10, p11 := rp hi h.p11, p14 := rp hi h.p14, p15 := rp hi h.p15 }⟩
  ·have hi : 13 < d.size := by omega
   have hn13 := not_dn hi hnd
   have d9 : dn d 9 := hpre _ rfl ⟨9, .data⟩ (by simp) rfl
   have d12 : dn d 12 := hpre _ rfl ⟨12, .data⟩ (by simp) rfl
   obtain ⟨A9, c9, e9, r9⟩ := h.c9 d9
   obtain ⟨g, e12, hg12, hz12⟩ := h.c12 d12 hn13
   have z0 := bx_cell hz12
   have y0 := bx_free hz12
   refine wpOp_plain rfl rfl ?_
   go_simp
   exact ⟨_, rfl, { bel := h.bel.setCell (p := ⟨g, 0, none⟩) hg12 _, siz := h.siz, kp := h.kp, k1 := h.k1, l1 := fun hj => dn_up (h.l1 (dn_of hi hj (by decide))), l3 := fun hj => dn_up (h.l3 (dn_of hi hj (by decide))), l4 := fun hj => dn_up (h.l4 (dn_of hi hj (by decide))), l6 := fun hj => dn_up (h.l6 (dn_of hi hj (by decide))), l7 := fun hj => (fun q => ⟨dn_up q.1, dn_up q.2.1, dn_up q.2.2⟩) (h.l7 (dn_of hi hj (by decide))), l8 := fun hj => dn_up (h.l8 (dn_of hi hj (by decide))), l9 := fun hj => dn_up (h.l9 (dn_of hi hj (by decide))), l13 := fun _ => ⟨dn_up (hpre _ rfl ⟨9, .data⟩ (by simp) rfl), dn_up (hpre _ rfl ⟨12, .data⟩ (by simp) rfl)⟩, c4 := fun _ hk => absurd (dn_up (h.l8 (h.l9 d9))) hk, c7 := fun hj => by obtain ⟨A, c, e, r⟩ := h.c7 (dn_of hi hj (by decide)); exact ⟨A, c, e, own_box r hz12⟩, c8 := fun hj => by obtain ⟨A, c, e, r⟩ := h.c8 (dn_of hi hj (by decide)); exact ⟨A, c, e, own_box r hz12⟩, c9 := fun hj => by obtain ⟨A, c, e, r⟩ := h.c9 (dn_of hi hj (by decide)); exact ⟨A, c, e, own_box r hz12⟩, c12 := fun _ hk => absurd (dn_self hi) hk, c13 := fun _ => ⟨g, A9, c9, e12, hg12, bx_set hz12, own_box r9 hz12⟩, p0 := rn hi h.p0, p1 := rn hi h.p1, p2 := rn hi h.p2, p3 := rn hi h.p3, p5 := rn hi h.p5, p6 := rn hi h.p6, p10 := rn hi h.p10, p11 := rn hi h.p11, p14 := rn hi h.p14, p15 := rn hi h.p15 }⟩
  ·have hi : 14 < d.size := by omega
   have e10 := h.p10 (hpre _ rfl ⟨10, .data⟩ (by simp) rfl)
   refine wpOp_plain rfl rfl ?_
   go_simp
   exact ⟨_, rfl, { bel := h.bel, siz := (by simpa using h.siz), kp := rk h.kp, k1 := rs h.k1, l1 := fun hj => dn_up (h.l1 (dn_of hi hj (by decide))), l3 := fun hj => dn_up (h.l3 (dn_of hi hj (by decide))), l4 := fun hj => dn_up (h.l4 (dn_of hi hj (by decide))), l6 := fun hj => dn_up (h.l6 (dn_of hi hj (by decide))), l7 := fun hj => (fun q => ⟨dn_up q.1, dn_up q.2.1, dn_up q.2.2⟩) (h.l7 (dn_of hi hj (by decide))), l8 := fun hj => dn_up (h.l8 (dn_of hi hj (by decide))), l9 := fun hj => dn_up (h.l9 (dn_of hi hj (by decide))), l13 := fun hj => (fun q => ⟨dn_up q.1, dn_up q.2⟩) (h.l13 (dn_of hi hj (by decide))), c4 := fun hj hk => by obtain ⟨A, c, e, r⟩ := h.c4 (dn_of hi hj (by decide)) (fun q => hk (dn_up q)); exact ⟨A, c, (set_other (by decide)).trans e, r⟩, c7 := fun hj => by obtain ⟨A, c, e, r⟩ := h.c7 (dn_of hi hj (by decide)); exact ⟨A, c, (set_other (by decide)).trans e, r⟩, c8 := fun hj => by obtain ⟨A, c, e, r⟩ := h.c8 (dn_of hi hj (by decide)); exact ⟨A, c, (set_other (by decide)).trans e, r⟩, c9 := fun hj => by obtain ⟨A, c, e, r⟩ := h.c9 (dn_of hi hj (by decide)); exact ⟨A, c, (set_other (by decide)).trans e, r⟩, c12 := fun hj hk => by obtain ⟨g, e, hg, hz⟩ := h.c12 (dn_of hi hj (by decide)) (fun q => hk (dn_up q)); exact ⟨g, (set_other (by decide)).trans e, hg, hz⟩, c13 := fun hj => by obtain ⟨g, A, c, e, hg, hz, hr⟩ := h.c13 (dn_of hi hj (by decide)); exact ⟨g, A, c, (set_other (by decide)).trans e, hg, hz, hr⟩, p0 := rp hi h.p0, p1 := rp hi h.p1, p2 := rp hi h.p2, p3 := rp hi h.p3, p5 := rp hi h.p5, p6 := rp hi h.p6, p10 := rp hi h.p10, p11 := rp hi h.p11, p14 := fun _ => set_same (by have := h.siz; omega), p15 := rp hi h.p15 }⟩
  ·have hi : 15 < d.size := by omega
   have e11 := h.p11 (hpre _ rfl ⟨11, .data⟩ (by simp) rfl)
   refine wpOp_plain rfl rfl ?_
   go_simp
   exact ⟨_, rfl, { bel := h.bel, siz := (by simpa using h.siz), kp := rk h.kp, k1 := rs h.k1, l1 := fun hj => dn_up (h.l1 (dn_of hi hj (by decide))), l3 := fun hj => dn_up (h.l3 (dn_of hi hj (by decide))), l4 := fun hj => dn_up (h.l4 (dn_of hi hj (by decide))), l6 := fun hj => dn_up (h.l6 (dn_of hi hj (by decide))), l7 := fun hj => (fun q => ⟨dn_up q.1, dn_up q.2.1, dn_up q.2.2⟩) (h.l7 (dn_of hi hj (by decide))), l8 := fun hj => dn_up (h.l8 (dn_of hi hj (by decide))), l9 := fun hj => dn_up (h.l9 (dn_of hi hj (by decide))), l13 := fun hj => (fun q => ⟨dn_up q.1, dn_up q.2⟩) (h.l13 (dn_of hi hj (by decide))), c4 := fun hj hk => by obtain ⟨A, c, e, r⟩ := h.c4 (dn_of hi hj (by decide)) (fun q => hk (dn_up q)); exact ⟨A, c, (set_other (by decide)).trans e, r⟩, c7 := fun hj => by obtain ⟨A, c, e, r⟩ := h.c7 (dn_of hi hj (by decide)); exact ⟨A, c, (set_other (by decide)).trans e, r⟩, c8 := fun hj => by obtain ⟨A, c, e, r⟩ := h.c8 (dn_of hi hj (by decide)); exact ⟨A, c, (set_other (by decide)).trans e, r⟩, c9 := fun hj => by obtain ⟨A, c, e, r⟩ := h.c9 (dn_of hi hj (by decide)); exact ⟨A, c, (set_other (by decide)).trans e, r⟩, c12 := fun hj hk => by obtain ⟨g, e, hg, hz⟩ := h.c12 (dn_of hi hj (by decide)) (fun q => hk (dn_up q)); exact ⟨g, (set_other (by decide)).trans e, hg, hz⟩, c13 := fun hj => by obtain ⟨g, A, c, e, hg, hz, hr⟩ := h.c13 (dn_of hi hj (by decide)); exact ⟨g, A, c, (set_other (by decide)).trans e, hg, hz, hr⟩, p0 := rp hi h.p0, p1 := rp hi h.p1, p2 := rp hi h.p2, p3 := rp hi h.p3, p5 := rp hi h.p5, p6 := rp hi h.p6, p10 := rp hi h.p10, p11 := rp hi h.p11, p14 := rp hi h.p14, p15 := fun _ => set_same (by have := h.siz; omega) }⟩
 case genda =>
  intro d a wc hd hI hall
  obtain ⟨t, rfl, h⟩ := hI
  have hdn : ∀ j, j < 16 → dn d j := fun j hj => dn_all hd hall hj
  have hd : ∀ j, (_ : j < 16 := by decide) → dn d j := fun j hj => hdn j hj
  obtain ⟨t3, x3⟩ : ∃ v, t[3]? = some v := ⟨_, Array.getElem?_eq_getElem (by have := h.siz; omega)⟩
  obtain ⟨t12, x12⟩ : ∃ v, t[12]? = some v := ⟨_, Array.getElem?_eq_getElem (by have := h.siz; omega)⟩
  obtain ⟨t17, x17⟩ : ∃ v, t[17]? = some v := ⟨_, Array.getElem?_eq_getElem (by have := h.siz; omega)⟩
  obtain ⟨t20, x20⟩ : ∃ v, t[20]? = some v := ⟨_, Array.getElem?_eq_getElem (by have := h.siz; omega)⟩
  obtain ⟨t21, x21⟩ : ∃ v, t[21]? = some v := ⟨_, Array.getElem?_eq_getElem (by have := h.siz; omega)⟩
  obtain ⟨X, A6, c6, e5, hg5, hz5, hr5⟩ := h.c13 (hd 13)
  obtain rfl : t3 = .pointer (some ⟨X, 0, none⟩) := by rw [x3] at e5; simpa using e5
  clear e5
  have hfe := frame_eq [(3, _), (4, _), (5, _), (12, _), (13, _), (14, _), (15, _), (16, _), (17, _), (18, _), (19, _), (20, _), (21, _), (22, _), (23, _)] (h.siz.trans rfl) h.kp rfl ⟨x3, h.p14 (hd 14), h.p15 (hd 15), x12, h.p0 (hd 0), h.p1 (hd 1), h.p2 (hd 2), h.p3 (hd 3), x17, h.p5 (hd 5), h.p6 (hd 6), x20, x21, h.p10 (hd 10), h.p11 (hd 11), trivial⟩
  simp only [List.foldl_cons, List.foldl_nil, List.setIfInBounds_toArray, List.set_cons_succ, List.set_cons_zero] at hfe
  have hbc := h.bel
  subst hfe
  clear h hdn hd hall
  have HBC := Lib.hid (HB2.out.trans (hbc.mono HB2.out.size))
  have hb6 := HBC.out
  have HB6 := Lib.hid hb6
  have HN6 := Lib.hid ((rds_of_own len_node hr5 : RdN wc wc.heap.size (.slice A6 ns.length c6) ns))
  have HX6 := Lib.hid hz5
  have hxl : X < wc.heap.size := lt_of_some hz5
  have hX : W1.heap.size ≤ X := Nat.le_trans HB2.out.size hg5
  clear x0 x1 x2 x3 hr5 hz5 hbc hg5
  obtain ⟨x0, x1, x2, x3⟩ := HX.out wc hb6
  clear hb6
  go_upto_region 4 with fail
  go_wp2_with fail
  refine (HC4.out wc HB6.out).mono ?_
  rintro e w8 ⟨A8, c8, rfl, hb8, ho8⟩
  have HB8 : Hid (Below W1.heap.size W1 w8) := Lib.hid (HB6.out.trans (hb8.mono HB6.out.size))
  have hbA : Below wc.heap.size wc (w8.alloc (.cells #[.slice A8 ns.length c8] 27)) := hb8.alloc hb8.size _
  have HN9 : Hid (RdN (w8.alloc (.cells #[.slice A8 ns.length c8] 27)) (w8.alloc (.cells #[.slice A8 ns.length c8] 27)).heap.size (.slice A6 ns.length c6) ns ∧ RdN (w8.alloc (.cells #[.slice A8 ns.length c8] 27)) (w8.alloc (.cells #[.slice A8 ns.length c8] 27)).heap.size (.slice A8 ns.length c8) ns) := Lib.hid ⟨(HN6.out.below hbA).more hbA.size, rds_of_own len_node (own_below ho8 ((Below.refl _ _).alloc (Nat.le_refl _) _))⟩
  have hX9 := (hbA.block X hxl).trans HX6.out
  have hY9 : (w8.alloc (.cells #[.slice A8 ns.length c8] 27)).heap[w8.heap.size]? = some (.cells #[.slice A8 ns.length c8] 27 (0, 0)) := heap_alloc_new _ _
  have HB9 : Hid (Below W1.heap.size W1 (w8.alloc (.cells #[.slice A8 ns.length c8] 27))) := Lib.hid (HB8.out.alloc HB8.out.size _)
  obtain ⟨w9, hw9⟩ : ∃ w9, w9 = w8.alloc (.cells #[.slice A8 ns.length c8] 27) := ⟨_, rfl⟩
  obtain ⟨Y, hY⟩ : ∃ Y, Y = w8.heap.size := ⟨_, rfl⟩
  rw [← hw9] at HN9 hX9 hY9 HB9
  rw [← hY] at hY9
  have y0 := bx_cell hX9
  have y1 := bx_cell hY9
  have HW9 := Lib.hid hw9
  have HY := Lib.hid hY
  have HSM := Lib.hid (r2Same_eq A6 A8 c6 c8 ns w9 HN9.out.1 HN9.out.2 (by have := HNL.out; omega))
  clear hb8 ho8 hbA hX9 hY9 hw9 hY x0 x1 x2 x3
  go_upto_region 5 with fail
  rw [← HW9.out, ← HY.out]
  go_wp2_with fail
  refine HSM.out.mono ?_
  rintro e wa ⟨rfl, hba⟩
  have HBA : Hid (Below W1.heap.size W1 wa) := Lib.hid (HB9.out.trans (hba.mono HB9.out.size))
  clear hba HSM
  go_wp2_with fail
  refine (HWK.out wa).mono ?_
  rintro e wb ⟨rfl, hbb⟩
  have HBB := Lib.hid (HBW.out wb (HBA.out.trans (hbb.mono HBA.out.size)))
  clear hbb
  go_wp2_with fail
  go_ret
  exact ⟨rfl, HBB.out⟩
end Go.Proofs.YtenmkbpdkfhbjaaGreat
