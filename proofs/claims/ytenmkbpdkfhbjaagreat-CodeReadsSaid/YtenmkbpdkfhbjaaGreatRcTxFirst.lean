/- groups.first: the error of a node by itself. -/
import Derived.Test.YtenmkbpdkfhbjaaGreatRcCdVisit
import Derived.StillTailTactics
namespace Go.Proofs.YtenmkbpdkfhbjaaGreat
open Go Go.RowKit

set_option maxRecDepth 100000 in
set_option maxHeartbeats 16000000 in
theorem first_any (l : Sg.SList) (ns : List Tx.Node) (i : Nat) (vl : Value) (w : World) (A : Option Addr) (c : Nat) (hl : RdSL w w.heap.size vl l) (h : RdN w w.heap.size (.slice A ns.length c) ns) (hi : i < ns.length) (hn : ns.length ≤ 1000000) (hp : ∀ j, j < i → Tx.ownAt l ns j = 0) :
  Calls Tryz.prog 56 #[vl, .agg #[.slice A ns.length c], .int .i64 i] w (RetE (Tx.ownAt l ns i) w) := by
 obtain ⟨⟨us, rfl, hsg⟩, -⟩ := hl
 obtain ⟨As, cs, rfl, -⟩ := id hsg
 obtain ⟨bT, off, rfl, hbT, hcell⟩ := RdN.eight h (by omega)
 have HC := Lib.hid hcell
 have HSG := Lib.hid hsg
 obtain ⟨f0, f1, f2, f3, f4, f5, f6, f7⟩ := hcell i hi
 obtain ⟨n, hn0⟩ : ∃ n, n = Tx.nd ns i := ⟨_, rfl⟩
 rw [← hn0] at f0 f1 f2 f3 f4 f5 f6 f7
 have HN := Lib.hid hn0
 have hiI : (i : Int) < (ns.length : Int) := by omega
 have hi0 : (0 : Int) ≤ (i : Int) := by omega
 have hnI : (ns.length : Int) ≤ 1000000 := by omega
 have HP := Lib.hid hp
 have HI := Lib.hid hi
 clear h hcell hsg hn0 hp
 obtain ⟨o, ho⟩ : ∃ o, o = (if i = 0 then none else some (Tx.nd ns (i - 1))) := ⟨_, rfl⟩
 have HO : Hid (Tx.ownAt l ns i = Tx.ownV l o n) := Lib.hid (by rw [ho, HN.out]; rfl)
 have HO2 := Lib.hid ho
 clear ho
 obtain ⟨κ, hκ⟩ : ∃ κ, n.kind = κ := ⟨_, rfl⟩
 rw [hκ] at f0
 have Hκ := Lib.hid hκ
 by_cases k0 : κ < 1 ∨ 7 < κ
 ·have HV : Hid (Tx.ownAt l ns i = 20) := Lib.hid (by rw [HO.out]; unfold Tx.ownV; rw [hκ, if_pos k0])
  obtain ⟨z1, hz1⟩ : ∃ z, decide (κ < 1) = z := ⟨_, rfl⟩
  obtain ⟨z2, hz2⟩ : ∃ z, decide ((7 : Int) < κ) = z := ⟨_, rfl⟩
  have HZ : Hid ((z1 || z2) = true) := Lib.hid (by rw [← hz1, ← hz2]; simpa using k0)
  clear k0 hκ
  cases z1 <;> cases z2
  ·exact absurd HZ.out (by decide)
  all_goals (go_enter Tryz.func56, Tryz.ntmps56; go_wp2_with fail; go_ret; rw [HV.out]; exact ⟨rfl, (alloc3 w _ _ _ _ rfl).2.1⟩)
 ·have k1 : ¬ κ < 1 := fun q => k0 (.inl q)
  have k2 : ¬ 7 < κ := fun q => k0 (.inr q)
  have d1 : decide (κ < 1) = false := decide_eq_false k1
  have d2 : decide (7 < κ) = false := decide_eq_false k2
  go_enter Tryz.func56, Tryz.ntmps56
  go_upto_region 4 with fail
  simp only [Nat.add_assoc, Nat.reduceAdd]
  obtain ⟨Z, hZ⟩ : ∃ Z, Z = w.heap.size := ⟨_, rfl⟩
  rw [← hZ]
  obtain ⟨W3, hW3⟩ : ∃ W3, W3 = (((w.alloc (.cells #[.int .i64 l.periods, .slice As l.signs.length cs] 24)).alloc (.cells #[.slice (some ⟨bT, off, none⟩) ns.length c] 27)).alloc (.cells #[.int .i64 κ, .int .i64 n.depth, .int .i64 n.sign, .int .i64 n.turn, .bool n.mirror, .int .i64 n.state, .int .i64 n.lo, .int .i64 n.hi] 59)) := ⟨_, rfl⟩
  rw [← hW3]
  obtain ⟨hsz, hbl, b0, b1, b2⟩ := alloc3 _ _ _ _ _ hW3
  rw [← hZ] at hsz hbl b0 b1 b2 hbT
  have HZ := Lib.hid hZ
  have HBL := Lib.hid hbl
  have HB0 := Lib.hid b0
  have HB1 := Lib.hid b1
  have HB2 := Lib.hid b2
  obtain ⟨δ, hδ⟩ : ∃ δ, n.depth = δ := ⟨_, rfl⟩
  rw [hδ] at HB2 ⊢
  have Hδ := Lib.hid hδ
  obtain ⟨mo, hmo⟩ : ∃ mo, mo = Tx.most o := ⟨_, rfl⟩
  have HMO := Lib.hid hmo
  have t0 : W3.cell? ⟨Z + 1, 0, none⟩ = some (.slice (some ⟨bT, off, none⟩) ns.length c) := bx_cell b1
  clear hZ hW3 hbl b0 b1 b2 hδ hmo f0 f1 f2 f3 f4 f5 f6 f7 k0 hκ
  go_upto_if 24 with fail
  go_cut [8] from 23 to 42 (fun v wc => v = .int .i64 mo ∧ Below W3.heap.size W3 wc)
  case first =>
   by_cases h0 : 0 < i
   ·have h0I : (0 : Int) < (i : Int) := by omega
    obtain ⟨j, hj⟩ : ∃ j, i = j + 1 := ⟨i - 1, by omega⟩
    have hjI : (i : Int) - 1 = (j : Int) := by omega
    have hjl : (j : Int) < (ns.length : Int) := by omega
    have hj0 : (0 : Int) ≤ (j : Int) := by omega
    have HJ := Lib.hid hj
    obtain ⟨p0, p1, p2, p3, p4, p5, p6, p7⟩ := HC.out j (by omega)
    have hbd := own_bounds (HP.out j (by omega))
    have hk : ∀ q, q.block = bT → W3.cell? q = w.cell? q := fun q hq => World.cell?_of_block (by rw [hq]; exact HBL.out.block bT hbT)
    obtain ⟨p, hp⟩ : ∃ p, p = Tx.nd ns j := ⟨_, rfl⟩
    rw [← hp] at p0 p1 p2 p3 p4 p5 p6 p7 hbd
    have q0 := (hk ⟨bT, off + j * 8, none⟩ rfl).trans p0
    have q1 := (hk ⟨bT, off + j * 8 + 1, none⟩ rfl).trans p1
    have q2 := (hk ⟨bT, off + j * 8 + 2, none⟩ rfl).trans p2
    have q3 := (hk ⟨bT, off + j * 8 + 3, none⟩ rfl).trans p3
    have q4 := (hk ⟨bT, off + j * 8 + 4, none⟩ rfl).trans p4
    have q5 := (hk ⟨bT, off + j * 8 + 5, none⟩ rfl).trans p5
    have q6 := (hk ⟨bT, off + j * 8 + 6, none⟩ rfl).trans p6
    have q7 := (hk ⟨bT, off + j * 8 + 7, none⟩ rfl).trans p7
    have HMV : Hid (mo = if Tx.leafB p.kind = true then p.depth else p.depth + 1) := Lib.hid (by rw [HMO.out, HO2.out, if_neg (by omega), HJ.out, Nat.add_sub_cancel, ← hp]; rfl)
    obtain ⟨hbd1, hbd2⟩ := hbd
    clear hj hk hp p0 p1 p2 p3 p4 p5 p6 p7
    go_wp2_with fail
    refine (isLeaf_any p _).mono ?_
    rintro e w5 ⟨rfl, hb5⟩
    have HB5 := Lib.hid hb5
    clear hb5
    cases hlf : Tx.leafB p.kind
    ·have HM1 : Hid (mo = p.depth + 1) := Lib.hid (by rw [HMV.out, hlf]; rfl)
     clear hlf
     go_wp2_with fail
     go_meet
     case rel => exact ⟨by rw [HM1.out], HB5.out⟩
    ·have HM1 : Hid (mo = p.depth) := Lib.hid (by rw [HMV.out, hlf]; rfl)
     clear hlf
     go_wp2_with fail
     go_meet
     case rel => exact ⟨by rw [HM1.out], HB5.out⟩
   ·have h0I : ¬ (0 : Int) < (i : Int) := by omega
    have HMV : Hid (mo = 0) := Lib.hid (by rw [HMO.out, HO2.out, if_pos (by omega)]; rfl)
    go_wp2_with fail
    go_meet
    case rel => exact ⟨by rw [HMV.out], Below.refl _ _⟩
  case rest =>
   obtain ⟨rfl, hbc⟩ := hcut
   have HBC := Lib.hid hbc
   have b2 := (hbc.block (Z + 2) (by omega)).trans HB2.out
   have b0 := (hbc.block Z (by omega)).trans HB0.out
   have hzc : Z + 3 ≤ wc.heap.size := by have := hbc.size; omega
   obtain ⟨z0, z1, z2, z3, z4, z5, z6, z7⟩ := box8_cells b2
   have x1 : wc.cell? ⟨Z, 1, none⟩ = some (.slice As l.signs.length cs) := by simp [World.cell?, b0]
   have hBel : Below w.heap.size w wc := by rw [← HZ.out]; exact HBL.out.trans (hbc.mono (by omega))
   have HBW := Lib.hid hBel
   clear hbc b0 b2 t0 hBel
   by_cases kd : δ < 0 ∨ 4 < δ ∨ mo < δ
   ·have HV : Hid (Tx.ownAt l ns i = 21) := Lib.hid (by rw [HO.out]; unfold Tx.ownV; rw [Hκ.out, if_neg (by omega), Hδ.out, ← HMO.out, if_pos kd])
    obtain ⟨y1, hy1⟩ : ∃ z, decide (δ < 0) = z := ⟨_, rfl⟩
    obtain ⟨y2, hy2⟩ : ∃ z, decide ((4 : Int) < δ) = z := ⟨_, rfl⟩
    obtain ⟨y3, hy3⟩ : ∃ z, decide (mo < δ) = z := ⟨_, rfl⟩
    have HZ : Hid ((y1 || y2 || y3) = true) := Lib.hid (by rw [← hy1, ← hy2, ← hy3]; simpa [or_assoc] using kd)
    clear kd
    cases y1 <;> cases y2 <;> cases y3
    ·exact absurd HZ.out (by decide)
    all_goals (go_wp2_with fail; go_ret; rw [HV.out]; exact ⟨rfl, HBW.out⟩)
   ·have y1 : decide (δ < 0) = false := decide_eq_false fun q => kd (.inl q)
    have y2 : decide ((4 : Int) < δ) = false := decide_eq_false fun q => kd (.inr (.inl q))
    have y3 : decide (mo < δ) = false := decide_eq_false fun q => kd (.inr (.inr q))
    have HO3 : Hid (Tx.ownAt l ns i = if κ = 1 then (if n.sign < 0 ∨ (l.signs.length : Int) ≤ n.sign then 23 else if n.turn < 0 ∨ 3 < n.turn ∨ n.state < 0 ∨ 3 < n.state ∨ (n.mirror = true ∧ Tx.evenAt l n.sign = true) then 20 else if n.lo ≠ 0 ∨ n.hi ≠ 0 then 20 else 0)
      else if κ = 6 then (if n.lo < 0 ∨ n.hi < n.lo ∨ 9 < n.hi ∨ n.hi < 1 then 22 else if n.sign ≠ 0 ∨ n.turn ≠ 0 ∨ n.mirror = true ∨ n.state ≠ 0 then 20 else 0)
      else if n.sign ≠ 0 ∨ n.turn ≠ 0 ∨ n.mirror = true ∨ n.state ≠ 0 ∨ n.lo ≠ 0 ∨ n.hi ≠ 0 then 20 else 0) := Lib.hid (by
     rw [HO.out]
     unfold Tx.ownV
     rw [Hκ.out, if_neg (by omega), Hδ.out, ← HMO.out, if_neg kd])
    clear kd
    go_upto_region 12 with fail
    obtain ⟨W6, hW6⟩ : ∃ X, X = wc.alloc (.cells #[.int .i64 κ, .int .i64 δ, .int .i64 0, .int .i64 0, .bool false, .int .i64 0, .int .i64 0, .int .i64 0] 59) := ⟨_, rfl⟩
    rw [← hW6]
    have hb6 : Below wc.heap.size wc W6 := by rw [hW6]; exact (Below.refl _ _).alloc (Nat.le_refl _) _
    have hr6 : W6.heap[wc.heap.size]? = some (.cells #[.int .i64 κ, .int .i64 δ, .int .i64 0, .int .i64 0, .bool false, .int .i64 0, .int .i64 0, .int .i64 0] 59 (0, 0)) := by rw [hW6]; exact heap_alloc_new _ _
    have hs6 : W6.heap.size = wc.heap.size + 1 := by rw [hW6]; simp
    have b26 := (hb6.block (Z + 2) (by omega)).trans ((HBC.out.block (Z + 2) (by omega)).trans HB2.out)
    have b06 := (hb6.block Z (by omega)).trans ((HBC.out.block Z (by omega)).trans HB0.out)
    have HB6 : Hid (Below w.heap.size w W6) := Lib.hid (HBW.out.trans (hb6.mono (by have := HZ.out; omega)))
    have HR6 := Lib.hid hr6
    obtain ⟨R, hR⟩ : ∃ R, R = wc.heap.size := ⟨_, rfl⟩
    rw [← hR] at HR6 ⊢
    have hRZ : Z + 2 < R := by omega
    clear z0 z1 z2 z3 z4 z5 z6 z7 x1 hW6 hb6 hr6 hR
    obtain ⟨z0, z1, z2, z3, z4, z5, z6, z7⟩ := box8_cells b26
    have x1 : W6.cell? ⟨Z, 1, none⟩ = some (.slice As l.signs.length cs) := by simp [World.cell?, b06]
    obtain ⟨r0, r1, r2, r3, r4, r5, r6, r7⟩ := box8_cells HR6.out
    obtain ⟨v2, v3, v4, v5, v6, v7⟩ := box8_free HR6.out
    clear b26 b06
    cases n with
    | mk nk nd' sg tn mi st lo h9 =>
    have HRW : Hid (w.heap.size ≤ R) := Lib.hid (by have := HZ.out; omega)
    by_cases k1 : κ = 1
    ·have t1 : (κ == 1) = true := by simp [k1]
     have HO4 : Hid (Tx.ownAt l ns i = if sg < 0 ∨ (l.signs.length : Int) ≤ sg then 23 else if tn < 0 ∨ 3 < tn ∨ st < 0 ∨ 3 < st ∨ (mi = true ∧ Tx.evenAt l sg = true) then 20 else if lo ≠ 0 ∨ h9 ≠ 0 then 20 else 0) := Lib.hid (HO3.out.trans (if_pos k1))
     clear k1
     by_cases kg : sg < 0 ∨ (l.signs.length : Int) ≤ sg
     ·have HV : Hid (Tx.ownAt l ns i = 23) := Lib.hid (HO4.out.trans (if_pos kg))
      obtain ⟨g1, hg1⟩ : ∃ z, decide (sg < 0) = z := ⟨_, rfl⟩
      obtain ⟨g2, hg2⟩ : ∃ z, decide ((l.signs.length : Int) ≤ sg) = z := ⟨_, rfl⟩
      have HZ : Hid ((g1 || g2) = true) := Lib.hid (by rw [← hg1, ← hg2]; simpa using kg)
      clear kg
      cases g1 <;> cases g2
      ·exact absurd HZ.out (by decide)
      all_goals (go_wp2_with fail; go_ret; rw [HV.out]; exact ⟨rfl, HB6.out⟩)
     ·have kn1 : ¬ sg < 0 := fun q => kg (.inl q)
      have kn2 : ¬ (l.signs.length : Int) ≤ sg := fun q => kg (.inr q)
      have g1 : decide (sg < 0) = false := decide_eq_false kn1
      have g2 : decide ((l.signs.length : Int) ≤ sg) = false := decide_eq_false kn2
      have hs0 : 0 ≤ sg := by omega
      have hs1 : sg < (l.signs.length : Int) := by omega
      have HO6 := Lib.hid (HO4.out.trans (if_neg kg))
      obtain ⟨bS, offS, rfl, hbS, hrow⟩ := HSG.out.five (by omega)
      obtain ⟨sx, hsx⟩ : ∃ sx, l.signs[sg.toNat]? = some sx := ⟨_, List.getElem?_eq_getElem (by omega)⟩
      obtain ⟨-, -, -, -, -, he5, -⟩ := hrow sg.toNat sx hsx
      obtain ⟨ev, hev⟩ : ∃ ev, Tx.evenAt l sg = ev := ⟨_, rfl⟩
      have hev2 : sx.even = ev := by rw [← hev]; unfold Tx.evenAt; rw [hsx]
      rw [hev] at HO6
      rw [hev2] at he5
      have s3 : W6.cell? ⟨bS, offS + sg.toNat * 5 + 3, none⟩ = some (.bool ev) := (World.cell?_of_block (HB6.out.block bS hbS)).trans he5
      clear kg kn1 kn2 hrow hsx he5 hev hev2
      by_cases kb : tn < 0 ∨ 3 < tn ∨ st < 0 ∨ 3 < st ∨ (mi = true ∧ ev = true)
      ·have HV : Hid (Tx.ownAt l ns i = 20) := Lib.hid (HO6.out.trans (if_pos kb))
       obtain ⟨j1, hj1⟩ : ∃ z, decide (tn < 0) = z := ⟨_, rfl⟩
       obtain ⟨j2, hj2⟩ : ∃ z, decide ((3 : Int) < tn) = z := ⟨_, rfl⟩
       obtain ⟨j3, hj3⟩ : ∃ z, decide (st < 0) = z := ⟨_, rfl⟩
       obtain ⟨j4, hj4⟩ : ∃ z, decide ((3 : Int) < st) = z := ⟨_, rfl⟩
       have HZ : Hid ((j1 || j2 || j3 || j4 || (mi && ev)) = true) := Lib.hid (by rw [← hj1, ← hj2, ← hj3, ← hj4]; simpa [or_assoc] using kb)
       clear kb
       cases j1 <;> cases j2 <;> cases j3 <;> cases j4 <;> cases mi <;> cases ev <;> first
        | exact absurd HZ.out (by decide)
        | (go_wp2_with fail; go_ret; rw [HV.out]; exact ⟨rfl, HB6.out⟩)
      ·have j1 : decide (tn < 0) = false := decide_eq_false fun q => kb (.inl q)
       have j2 : decide ((3 : Int) < tn) = false := decide_eq_false fun q => kb (.inr (.inl q))
       have j3 : decide (st < 0) = false := decide_eq_false fun q => kb (.inr (.inr (.inl q)))
       have j4 : decide ((3 : Int) < st) = false := decide_eq_false fun q => kb (.inr (.inr (.inr (.inl q))))
       have HO5 : Hid (Tx.ownAt l ns i = if lo ≠ 0 ∨ h9 ≠ 0 then 20 else 0) := Lib.hid (HO6.out.trans (if_neg kb))
       have HME : Hid ((mi && ev) = false) := Lib.hid (by cases mi <;> cases ev <;> simp_all)
       clear kb
       cases mi <;> cases ev
       case true.true => exact absurd HME.out (by decide)
       all_goals
        go_upto_region 18 with fail
        go_region
       all_goals
        by_cases qlo : lo = 0
        case neg =>
         have HV : Hid (Tx.ownAt l ns i = 20) := Lib.hid (HO5.out.trans (if_pos (by simp [qlo])))
         (go_wp2_with fail; go_ret; rw [HV.out]; exact ⟨rfl, ((((HB6.out.setCell (p := ⟨R, 2, none⟩) HRW.out _).setCell (p := ⟨R, 3, none⟩) HRW.out _).setCell (p := ⟨R, 4, none⟩) HRW.out _).setCell (p := ⟨R, 5, none⟩) HRW.out _).drew⟩)
        subst qlo
        by_cases qh9 : h9 = 0
        case neg =>
         have HV : Hid (Tx.ownAt l ns i = 20) := Lib.hid (HO5.out.trans (if_pos (by simp [qh9])))
         (go_wp2_with fail; go_ret; rw [HV.out]; exact ⟨rfl, ((((HB6.out.setCell (p := ⟨R, 2, none⟩) HRW.out _).setCell (p := ⟨R, 3, none⟩) HRW.out _).setCell (p := ⟨R, 4, none⟩) HRW.out _).setCell (p := ⟨R, 5, none⟩) HRW.out _).drew⟩)
        subst qh9
        have HV : Hid (Tx.ownAt l ns i = 0) := Lib.hid (HO5.out.trans (if_neg (by simp)))
        (go_wp2_with fail; go_ret; rw [HV.out]; exact ⟨rfl, ((((HB6.out.setCell (p := ⟨R, 2, none⟩) HRW.out _).setCell (p := ⟨R, 3, none⟩) HRW.out _).setCell (p := ⟨R, 4, none⟩) HRW.out _).setCell (p := ⟨R, 5, none⟩) HRW.out _).drew⟩)
    by_cases k6 : κ = 6
    ·have t1 : (κ == 1) = false := by simp [k1]
     have t6 : (κ == 6) = true := by simp [k6]
     have HO4 : Hid (Tx.ownAt l ns i = if lo < 0 ∨ h9 < lo ∨ 9 < h9 ∨ h9 < 1 then 22 else if sg ≠ 0 ∨ tn ≠ 0 ∨ mi = true ∨ st ≠ 0 then 20 else 0) := Lib.hid (HO3.out.trans ((if_neg k1).trans (if_pos k6)))
     clear k1 k6
     by_cases kg : lo < 0 ∨ h9 < lo ∨ 9 < h9 ∨ h9 < 1
     ·have HV : Hid (Tx.ownAt l ns i = 22) := Lib.hid (HO4.out.trans (if_pos kg))
      obtain ⟨g1, hg1⟩ : ∃ z, decide (lo < 0) = z := ⟨_, rfl⟩
      obtain ⟨g2, hg2⟩ : ∃ z, decide (h9 < lo) = z := ⟨_, rfl⟩
      obtain ⟨g3, hg3⟩ : ∃ z, decide ((9 : Int) < h9) = z := ⟨_, rfl⟩
      obtain ⟨g4, hg4⟩ : ∃ z, decide (h9 < 1) = z := ⟨_, rfl⟩
      have HZ : Hid ((g1 || g2 || g3 || g4) = true) := Lib.hid (by rw [← hg1, ← hg2, ← hg3, ← hg4]; simpa [or_assoc] using kg)
      clear kg
      cases g1 <;> cases g2 <;> cases g3 <;> cases g4
      ·exact absurd HZ.out (by decide)
      all_goals (go_wp2_with fail; go_ret; rw [HV.out]; exact ⟨rfl, HB6.out⟩)
     ·have g1 : decide (lo < 0) = false := decide_eq_false fun q => kg (.inl q)
      have g2 : decide (h9 < lo) = false := decide_eq_false fun q => kg (.inr (.inl q))
      have g3 : decide ((9 : Int) < h9) = false := decide_eq_false fun q => kg (.inr (.inr (.inl q)))
      have g4 : decide (h9 < 1) = false := decide_eq_false fun q => kg (.inr (.inr (.inr q)))
      have HO5 : Hid (Tx.ownAt l ns i = if sg ≠ 0 ∨ tn ≠ 0 ∨ mi = true ∨ st ≠ 0 then 20 else 0) := Lib.hid (HO4.out.trans (if_neg kg))
      clear kg
      go_upto_region 22 with fail
      go_region
      all_goals
       by_cases qsg : sg = 0
       case neg =>
        have HV : Hid (Tx.ownAt l ns i = 20) := Lib.hid (HO5.out.trans (if_pos (by simp [qsg])))
        (go_wp2_with fail; go_ret; rw [HV.out]; exact ⟨rfl, ((HB6.out.setCell (p := ⟨R, 6, none⟩) HRW.out _).setCell (p := ⟨R, 7, none⟩) HRW.out _).drew⟩)
       subst qsg
       by_cases qtn : tn = 0
       case neg =>
        have HV : Hid (Tx.ownAt l ns i = 20) := Lib.hid (HO5.out.trans (if_pos (by simp [qtn])))
        (go_wp2_with fail; go_ret; rw [HV.out]; exact ⟨rfl, ((HB6.out.setCell (p := ⟨R, 6, none⟩) HRW.out _).setCell (p := ⟨R, 7, none⟩) HRW.out _).drew⟩)
       subst qtn
       cases mi
       case true =>
        have HV : Hid (Tx.ownAt l ns i = 20) := Lib.hid (HO5.out.trans (if_pos (by simp)))
        (go_wp2_with fail; go_ret; rw [HV.out]; exact ⟨rfl, ((HB6.out.setCell (p := ⟨R, 6, none⟩) HRW.out _).setCell (p := ⟨R, 7, none⟩) HRW.out _).drew⟩)
       by_cases qst : st = 0
       case neg =>
        have HV : Hid (Tx.ownAt l ns i = 20) := Lib.hid (HO5.out.trans (if_pos (by simp [qst])))
        (go_wp2_with fail; go_ret; rw [HV.out]; exact ⟨rfl, ((HB6.out.setCell (p := ⟨R, 6, none⟩) HRW.out _).setCell (p := ⟨R, 7, none⟩) HRW.out _).drew⟩)
       subst qst
       have HV : Hid (Tx.ownAt l ns i = 0) := Lib.hid (HO5.out.trans (if_neg (by simp)))
       (go_wp2_with fail; go_ret; rw [HV.out]; exact ⟨rfl, ((HB6.out.setCell (p := ⟨R, 6, none⟩) HRW.out _).setCell (p := ⟨R, 7, none⟩) HRW.out _).drew⟩)
    have t1 : (κ == 1) = false := by simp [k1]
    have t6 : (κ == 6) = false := by simp [k6]
    have HO4 : Hid (Tx.ownAt l ns i = if sg ≠ 0 ∨ tn ≠ 0 ∨ mi = true ∨ st ≠ 0 ∨ lo ≠ 0 ∨ h9 ≠ 0 then 20 else 0) := Lib.hid (HO3.out.trans ((if_neg k1).trans (if_neg k6)))
    clear k1 k6
    by_cases qsg : sg = 0
    case neg =>
     have HV : Hid (Tx.ownAt l ns i = 20) := Lib.hid (HO4.out.trans (if_pos (by simp [qsg])))
     (go_wp2_with fail; go_ret; rw [HV.out]; exact ⟨rfl, HB6.out⟩)
    subst qsg
    by_cases qtn : tn = 0
    case neg =>
     have HV : Hid (Tx.ownAt l ns i = 20) := Lib.hid (HO4.out.trans (if_pos (by simp [qtn])))
     (go_wp2_with fail; go_ret; rw [HV.out]; exact ⟨rfl, HB6.out⟩)
    subst qtn
    cases mi
    case true =>
     have HV : Hid (Tx.ownAt l ns i = 20) := Lib.hid (HO4.out.trans (if_pos (by simp)))
     (go_wp2_with fail; go_ret; rw [HV.out]; exact ⟨rfl, HB6.out⟩)
    by_cases qst : st = 0
    case neg =>
     have HV : Hid (Tx.ownAt l ns i = 20) := Lib.hid (HO4.out.trans (if_pos (by simp [qst])))
     (go_wp2_with fail; go_ret; rw [HV.out]; exact ⟨rfl, HB6.out⟩)
    subst qst
    by_cases qlo : lo = 0
    case neg =>
     have HV : Hid (Tx.ownAt l ns i = 20) := Lib.hid (HO4.out.trans (if_pos (by simp [qlo])))
     (go_wp2_with fail; go_ret; rw [HV.out]; exact ⟨rfl, HB6.out⟩)
    subst qlo
    by_cases qh9 : h9 = 0
    case neg =>
     have HV : Hid (Tx.ownAt l ns i = 20) := Lib.hid (HO4.out.trans (if_pos (by simp [qh9])))
     (go_wp2_with fail; go_ret; rw [HV.out]; exact ⟨rfl, HB6.out⟩)
    subst qh9
    have HV : Hid (Tx.ownAt l ns i = 0) := Lib.hid (HO4.out.trans (if_neg (by simp)))
    (go_wp2_with fail; go_ret; rw [HV.out]; exact ⟨rfl, HB6.out⟩)
end Go.Proofs.YtenmkbpdkfhbjaaGreat
