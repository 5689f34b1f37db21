/- ostraconref02.own: the error of a node by itself. Made by gen_t2own.py.; ostraconref02.parent. -/
import Derived.Test.YtenmkbpdkfhbjaaGreatRcR3Word
import Derived.Test.YtenmkbpdkfhbjaaGreatRcTxFirst
import Derived.Test.YtenmkbpdkfhbjaaGreatRcSgRCheck
namespace Go.Proofs.YtenmkbpdkfhbjaaGreat
open Go Go.RowKit

set_option maxRecDepth 100000 in
set_option maxHeartbeats 32000000 in
theorem r2own_any (l : Sg.SList) (ns : List Tx.Node) (i : Nat) (vl : Value) (w : World) (A : Option Addr) (c : Nat) (hl : RdSL w w.heap.size vl l) (h : RdN w w.heap.size (.slice A ns.length c) ns) (hi : i < ns.length) (hn : ns.length ≤ 1000000) (hp : ∀ j, j < i → Tx.ownAt l ns j = 0) :
  Calls Tryz.prog 46 #[vl, .agg #[.slice A ns.length c], .int .i64 i] w (RetE (Tx.ownAt l ns i) w) := by
 obtain ⟨⟨us, rfl, hsg⟩, -⟩ := hl
 obtain ⟨As, cs, rfl, -⟩ := id hsg
 obtain ⟨bT, off, rfl, hbT, hcell⟩ := RdN.eight h (by omega)
 have HC := Lib.hid hcell
 have HSG := Lib.hid hsg
 obtain ⟨f0, f1, f2, f3, f4, f5, f6, f7⟩ := hcell i hi
 obtain ⟨n, hn0⟩ : ∃ n, n = Tx.nd ns i := ⟨_, rfl⟩
 rw [← hn0] at f0 f1 f2 f3 f4 f5 f6 f7
 have HN := Lib.hid hn0
 have hiI : (i : Int) < (ns.length : Int) := by omega
 have hi0 : (0 : Int) ≤ (i : Int) := by omega
 have hnI : (ns.length : Int) ≤ 1000000 := by omega
 have HP := Lib.hid hp
 have HI := Lib.hid hi
 clear h hcell hsg hn0 hp
 obtain ⟨o, ho⟩ : ∃ o, o = (if i = 0 then none else some (Tx.nd ns (i - 1))) := ⟨_, rfl⟩
 have HO : Hid (Tx.ownAt l ns i = Tx.ownV l o n) := Lib.hid (by rw [ho, HN.out]; rfl)
 have HO2 := Lib.hid ho
 clear ho
 obtain ⟨κ, hκ⟩ : ∃ κ, n.kind = κ := ⟨_, rfl⟩
 rw [hκ] at f0
 have Hκ := Lib.hid hκ
 obtain ⟨δ, hδ⟩ : ∃ δ, n.depth = δ := ⟨_, rfl⟩
 rw [hδ] at f1
 have Hδ := Lib.hid hδ
 obtain ⟨mo, hmo⟩ : ∃ mo, mo = Tx.most o := ⟨_, rfl⟩
 have HMO := Lib.hid hmo
 obtain ⟨Z, hZ⟩ : ∃ Z, Z = w.heap.size := ⟨_, rfl⟩
 have HZ := Lib.hid hZ
 clear hκ hδ hmo
 go_enter Tryz.func46, Tryz.ntmps46
 go_upto_region 2 with fail
 simp only [Nat.add_assoc, Nat.reduceAdd]
 rw [← HZ.out]
 obtain ⟨W3, hW3⟩ : ∃ W3, W3 = (((w.alloc (.cells #[.int .i64 l.periods, .slice As l.signs.length cs] 24)).alloc (.cells #[.slice (some ⟨bT, off, none⟩) ns.length c] 27)).alloc (.cells #[.int .i64 κ, .int .i64 δ, .int .i64 n.sign, .int .i64 n.turn, .bool n.mirror, .int .i64 n.state, .int .i64 n.lo, .int .i64 n.hi] 59)) := ⟨_, rfl⟩
 rw [← hW3]
 obtain ⟨hsz, hbl, b0, b1, b2⟩ := alloc3 _ _ _ _ _ hW3
 rw [← hZ] at hsz hbl b0 b1 b2 hbT
 have HBL := Lib.hid hbl
 have HB0 := Lib.hid b0
 have HB1 := Lib.hid b1
 have HB2 := Lib.hid b2
 have HBW3 := Lib.hid (show Below w.heap.size w W3 by rw [← hZ]; exact hbl)
 obtain ⟨z0, z1, z2, z3, z4, z5, z6, z7⟩ := box8_cells b2
 clear hZ hW3 hbl b0 b1 b2 f0 f1 f2 f3 f4 f5 f6 f7
 by_cases k0 : κ < 1 ∨ 7 < κ
 ·have HV : Hid (Tx.ownAt l ns i = 20) := Lib.hid (by rw [HO.out]; unfold Tx.ownV; rw [Hκ.out, if_pos k0])
  obtain ⟨e1, hz1⟩ : ∃ z, decide (κ < 1) = z := ⟨_, rfl⟩
  obtain ⟨e2, hz2⟩ : ∃ z, decide ((7 : Int) < κ) = z := ⟨_, rfl⟩
  have HZZ : Hid ((e1 || e2) = true) := Lib.hid (by rw [← hz1, ← hz2]; simpa using k0)
  clear k0
  cases e1 <;> cases e2
  ·exact absurd HZZ.out (by decide)
  all_goals (go_wp2_with fail; go_ret; rw [HV.out]; exact ⟨rfl, HBW3.out⟩)
 have k1 : ¬ κ < 1 := fun q => k0 (.inl q)
 have k2 : ¬ 7 < κ := fun q => k0 (.inr q)
 have d1 : decide (κ < 1) = false := decide_eq_false k1
 have d2 : decide (7 < κ) = false := decide_eq_false k2
 by_cases kd : δ < 0 ∨ 4 < δ ∨ ((i == 0) = true ∧ 0 < δ)
 ·have HV : Hid (Tx.ownAt l ns i = 21) := Lib.hid (by
   rw [HO.out]
   unfold Tx.ownV
   rw [Hκ.out, if_neg k0, Hδ.out, ← HMO.out, if_pos ?_]
   rcases kd with q | q | ⟨q, r⟩
   ·exact .inl q
   ·exact .inr (.inl q)
   ·refine .inr (.inr ?_)
    rw [HMO.out, HO2.out, if_pos (by simpa using q)]
    exact r)
  have HKD := Lib.hid kd
  obtain ⟨y1, hy1⟩ : ∃ z, decide (δ < 0) = z := ⟨_, rfl⟩
  obtain ⟨y2, hy2⟩ : ∃ z, decide ((4 : Int) < δ) = z := ⟨_, rfl⟩
  cases y1 <;> cases y2
  case false.false =>
   have q : (i == 0) = true ∧ 0 < δ := by
    have e1 : ¬ δ < 0 := of_decide_eq_false hy1
    have e2 : ¬ 4 < δ := of_decide_eq_false hy2
    rcases kd with q | q | q
    ·exact absurd q e1
    ·exact absurd q e2
    ·exact q
   have hi00 : i = 0 := by simpa using q.1
   have y3 : decide ((0 : Int) < δ) = true := decide_eq_true q.2
   have hi0I : ((i : Int) == 0) = true := by simp [hi00]
   clear kd q hi00
   (go_wp2_with fail; go_ret; rw [HV.out]; exact ⟨rfl, HBW3.out⟩)
  all_goals (clear kd; go_wp2_with fail; go_ret; rw [HV.out]; exact ⟨rfl, HBW3.out⟩)
 have kd1 : ¬ δ < 0 := fun q => kd (.inl q)
 have kd2 : ¬ 4 < δ := fun q => kd (.inr (.inl q))
 have kd3 : i = 0 → ¬ 0 < δ := fun q r => kd (.inr (.inr ⟨by simp [q], r⟩))
 have y1 : decide (δ < 0) = false := decide_eq_false kd1
 have y2 : decide ((4 : Int) < δ) = false := decide_eq_false kd2
 have HKK := Lib.hid (And.intro k1 k2)
 have HKD := Lib.hid (And.intro kd1 (And.intro kd2 kd3))
 have hδ0 : 0 ≤ δ := by omega
 have hδ4 : δ ≤ 4 := by omega
 have HGO : Hid (i = 0 ∨ ∃ j, i = j + 1) := Lib.hid (by cases i with | zero => exact .inl rfl | succ j => exact .inr ⟨j, rfl⟩)
 obtain ⟨iz, hiz⟩ : ∃ iz, iz = ((i : Int) == 0) := ⟨_, rfl⟩
 have HIZ := Lib.hid hiz
 have HY3 : Hid (decide ((0 : Int) < δ) = false ∨ ((i : Int) == 0) = false) := Lib.hid (by
  by_cases q : i = 0
  ·exact .inl (decide_eq_false (kd3 q))
  ·exact .inr (by simp [q]))
 clear k0 k1 k2 kd kd1 kd2 kd3 hiz
 have key : ∀ b0 : Bool, ((i : Int) == 0) = b0 → True := fun _ _ => trivial
 go_upto_region 4 with fail
 go_cut [39] from 23 to 38 (fun v wc => v = .bool false ∧ wc = W3)
 case first =>
  rcases HY3.out with y3 | y3
  ·obtain ⟨q0, hq0⟩ : ∃ q0, ((i : Int) == 0) = q0 := ⟨_, rfl⟩
   cases q0
   all_goals
    go_wp2_with fail
    go_meet
    case rel => exact ⟨rfl, rfl⟩
  ·go_wp2_with fail
   go_meet
   case rel => exact ⟨rfl, rfl⟩
 case rest =>
  obtain ⟨rfl, hwc⟩ := hcut
  replace hwc := hwc.symm
  subst hwc
  go_upto_if 41 with fail
  go_cut [8] from 40 to 65 (fun _ wc => Below W3.heap.size W3 wc ∧ ¬ mo < δ)
  case first =>
   by_cases h0 : 0 < i
   ·have h0I : (0 : Int) < (i : Int) := by omega
    have h00 : ((i : Int) == 0) = false := by simp; omega
    obtain ⟨j, hj⟩ : ∃ j, i = j + 1 := ⟨i - 1, by omega⟩
    have hjI : (i : Int) - 1 = (j : Int) := by omega
    have hjl : (j : Int) < (ns.length : Int) := by omega
    have hj0 : (0 : Int) ≤ (j : Int) := by omega
    have HJ := Lib.hid hj
    obtain ⟨p0, p1, p2, p3, p4, p5, p6, p7⟩ := HC.out j (by omega)
    have hbd := own_bounds (HP.out j (by omega))
    have hk : ∀ q, q.block = bT → W3.cell? q = w.cell? q := fun q hq => World.cell?_of_block (by rw [hq]; exact HBL.out.block bT hbT)
    obtain ⟨p, hp⟩ : ∃ p, p = Tx.nd ns j := ⟨_, rfl⟩
    rw [← hp] at p0 p1 p2 p3 p4 p5 p6 p7 hbd
    have q0 := (hk ⟨bT, off + j * 8, none⟩ rfl).trans p0
    have q1 := (hk ⟨bT, off + j * 8 + 1, none⟩ rfl).trans p1
    have q2 := (hk ⟨bT, off + j * 8 + 2, none⟩ rfl).trans p2
    have q3 := (hk ⟨bT, off + j * 8 + 3, none⟩ rfl).trans p3
    have q4 := (hk ⟨bT, off + j * 8 + 4, none⟩ rfl).trans p4
    have q5 := (hk ⟨bT, off + j * 8 + 5, none⟩ rfl).trans p5
    have q6 := (hk ⟨bT, off + j * 8 + 6, none⟩ rfl).trans p6
    have q7 := (hk ⟨bT, off + j * 8 + 7, none⟩ rfl).trans p7
    have HMV : Hid (mo = if Tx.leafB p.kind = true then p.depth else p.depth + 1) := Lib.hid (by rw [HMO.out, HO2.out, if_neg (by omega), HJ.out, Nat.add_sub_cancel, ← hp]; rfl)
    obtain ⟨hbd1, hbd2⟩ := hbd
    have x1 : W3.cell? ⟨Z + 1, 0, none⟩ = some (.slice (some ⟨bT, off, none⟩) ns.length c) := bx_cell HB1.out
    obtain ⟨W4, hW4⟩ : ∃ Y, Y = W3.alloc (.cells #[.int .i64 p.kind, .int .i64 p.depth, .int .i64 p.sign, .int .i64 p.turn, .bool p.mirror, .int .i64 p.state, .int .i64 p.lo, .int .i64 p.hi] 59) := ⟨_, rfl⟩
    have hb4 : Below W3.heap.size W3 W4 := by rw [hW4]; exact (Below.refl _ _).alloc (Nat.le_refl _) _
    have hp4 : W4.heap[Z + 3]? = some (.cells #[.int .i64 p.kind, .int .i64 p.depth, .int .i64 p.sign, .int .i64 p.turn, .bool p.mirror, .int .i64 p.state, .int .i64 p.lo, .int .i64 p.hi] 59 (0, 0)) := by rw [hW4, ← hsz]; exact heap_alloc_new _ _
    have HB4 := Lib.hid hb4
    have HP4 := Lib.hid hp4
    have b24 := (hb4.block (Z + 2) (by omega)).trans HB2.out
    have HB24 := Lib.hid b24
    have HRES : Hid (∀ n, RetE 21 w (.returned (.int .i64 21)) (W4.drewN n)) := Lib.hid fun n => ⟨rfl, below_drewN (HBW3.out.trans (HB4.out.mono HBW3.out.size)) n⟩
    have HRES0 : Hid (RetE 21 w (.returned (.int .i64 21)) W4) := Lib.hid (HRES.out 0)
    clear hj hk hp p0 p1 p2 p3 p4 p5 p6 p7 hb4 hp4 b24
    go_upto_region 8 with fail
    rw [← hW4]
    clear hW4 q0 q1 q2 q3 q4 q5 q6 q7
    obtain ⟨q0, q1, q2, q3, q4, q5, q6, q7⟩ := box8_cells HP4.out
    clear z0 z1 z2 z3 z4 z5 z6 z7
    obtain ⟨z0, z1, z2, z3, z4, z5, z6, z7⟩ := box8_cells HB24.out
    by_cases hbig : p.depth + 1 < δ
    ·have d5 : decide (p.depth + 1 < δ) = true := decide_eq_true hbig
     have HV : Hid (Tx.ownAt l ns i = 21) := Lib.hid (by
      rw [HO.out]
      unfold Tx.ownV
      rw [Hκ.out, if_neg (by have := HKK.out; omega), Hδ.out, ← HMO.out, if_pos ?_]
      refine .inr (.inr ?_)
      rw [HMV.out]
      split <;> omega)
     clear hbig
     go_wp2_with fail
     go_ret
     rw [HV.out]
     exact HRES0.out
    ·have d5 : decide (p.depth + 1 < δ) = false := decide_eq_false hbig
     have HLF : Hid (∀ W1, Calls Tryz.prog 71 #[.int .i64 p.kind] W1 (fun e w' => e = .returned (.bool (Tx.leafB p.kind)) ∧ w' = W1)) := Lib.hid fun W1 => r2Leaf_any p.kind W1
     obtain ⟨lf, hlf⟩ : ∃ lf, lf = Tx.leafB p.kind := ⟨_, rfl⟩
     rw [← hlf] at HLF HMV
     clear hlf
     go_wp2_with fail
     refine (HLF.out _).mono ?_
     rintro e w5 ⟨rfl, rfl⟩
     cases lf
     ·have HM1 : Hid (mo = p.depth + 1) := Lib.hid (by rw [HMV.out]; rfl)
      have HNM : Hid (¬ mo < δ) := Lib.hid (by rw [HM1.out]; omega)
      clear hbig
      go_wp2_with fail
      go_meet
      case rel => exact ⟨HB4.out, HNM.out⟩
     ·have HM1 : Hid (mo = p.depth) := Lib.hid (by rw [HMV.out]; rfl)
      by_cases hbig2 : p.depth < δ
      ·have d6 : decide (p.depth < δ) = true := decide_eq_true hbig2
       have HV : Hid (Tx.ownAt l ns i = 21) := Lib.hid (by
        rw [HO.out]
        unfold Tx.ownV
        rw [Hκ.out, if_neg (by have := HKK.out; omega), Hδ.out, ← HMO.out, if_pos (.inr (.inr (by rw [HM1.out]; omega)))])
       clear hbig hbig2
       go_wp2_with fail
       go_ret
       rw [HV.out]
       exact HRES0.out
      ·have d6 : decide (p.depth < δ) = false := decide_eq_false hbig2
       have HNM : Hid (¬ mo < δ) := Lib.hid (by rw [HM1.out]; omega)
       clear hbig hbig2
       go_wp2_with fail
       go_meet
       case rel => exact ⟨HB4.out, HNM.out⟩
   ·have h0I : ¬ (0 : Int) < (i : Int) := by omega
    have hi00 : i = 0 := by omega
    have h00 : ((i : Int) == 0) = true := by simp [hi00]
    have h3 : ¬ 0 < δ := by have := HKD.out.2.2 hi00; omega
    have d3 : decide ((0 : Int) < δ) = false := decide_eq_false h3
    have HNM : Hid (¬ mo < δ) := Lib.hid (by rw [HMO.out, HO2.out, if_pos hi00]; exact h3)
    clear h3 hi00
    go_wp2_with fail
    go_meet
    case rel => exact ⟨Below.refl _ _, HNM.out⟩
  case rest =>
   obtain ⟨hbc, hnm⟩ := hcut
   have HBC := Lib.hid hbc
   have HNM := Lib.hid hnm
   have b2 := (hbc.block (Z + 2) (by omega)).trans HB2.out
   have b0 := (hbc.block Z (by omega)).trans HB0.out
   have hzc : Z + 3 ≤ wc.heap.size := by have := hbc.size; omega
   clear z0 z1 z2 z3 z4 z5 z6 z7
   obtain ⟨z0, z1, z2, z3, z4, z5, z6, z7⟩ := box8_cells b2
   have hBel : Below w.heap.size w wc := HBW3.out.trans (hbc.mono HBW3.out.size)
   have HBW := Lib.hid hBel
   have HO3 : Hid (Tx.ownAt l ns i = if κ = 1 then (if n.sign < 0 ∨ (l.signs.length : Int) ≤ n.sign then 23 else if n.turn < 0 ∨ 3 < n.turn ∨ n.state < 0 ∨ 3 < n.state ∨ (n.mirror = true ∧ Tx.evenAt l n.sign = true) then 20 else if n.lo ≠ 0 ∨ n.hi ≠ 0 then 20 else 0)
     else if κ = 6 then (if n.lo < 0 ∨ n.hi < n.lo ∨ 9 < n.hi ∨ n.hi < 1 then 22 else if n.sign ≠ 0 ∨ n.turn ≠ 0 ∨ n.mirror = true ∨ n.state ≠ 0 then 20 else 0)
     else if n.sign ≠ 0 ∨ n.turn ≠ 0 ∨ n.mirror = true ∨ n.state ≠ 0 ∨ n.lo ≠ 0 ∨ n.hi ≠ 0 then 20 else 0) := Lib.hid (by
    rw [HO.out]
    unfold Tx.ownV
    rw [Hκ.out, if_neg (by have := HKK.out; omega), Hδ.out, ← HMO.out, if_neg (by have := HKD.out; omega)])
   clear hbc hnm b0 b2 hBel
   go_upto_region 13 with fail
   obtain ⟨W6, hW6⟩ : ∃ X, X = wc.alloc (.cells #[.int .i64 0, .int .i64 0, .int .i64 n.sign, .int .i64 n.turn, .bool n.mirror, .int .i64 n.state, .int .i64 n.lo, .int .i64 n.hi] 59) := ⟨_, rfl⟩
   rw [← hW6]
   have hb6 : Below wc.heap.size wc W6 := by rw [hW6]; exact (Below.refl _ _).alloc (Nat.le_refl _) _
   have hr6 : W6.heap[wc.heap.size]? = some (.cells #[.int .i64 0, .int .i64 0, .int .i64 n.sign, .int .i64 n.turn, .bool n.mirror, .int .i64 n.state, .int .i64 n.lo, .int .i64 n.hi] 59 (0, 0)) := by
    rw [hW6]
    exact heap_alloc_new _ _
   have b26 := (hb6.block (Z + 2) (by omega)).trans ((HBC.out.block (Z + 2) (by omega)).trans HB2.out)
   have b06 := (hb6.block Z (by omega)).trans ((HBC.out.block Z (by omega)).trans HB0.out)
   have HB6 : Hid (Below w.heap.size w W6) := Lib.hid (HBW.out.trans (hb6.mono (by have := HZ.out; omega)))
   have HR6 := Lib.hid hr6
   obtain ⟨R, hR⟩ : ∃ R, R = wc.heap.size := ⟨_, rfl⟩
   rw [← hR] at HR6 ⊢
   have hRZ : Z + 2 < R := by omega
   clear z0 z1 z2 z3 z4 z5 z6 z7 hW6 hb6 hr6 hR
   obtain ⟨z0, z1, z2, z3, z4, z5, z6, z7⟩ := box8_cells b26
   have x1 : W6.cell? ⟨Z, 1, none⟩ = some (.slice As l.signs.length cs) := by simp [World.cell?, b06]
   obtain ⟨r0, r1, r2, r3, r4, r5, r6, r7⟩ := box8_cells HR6.out
   obtain ⟨v2, v3, v4, v5, v6, v7⟩ := box8_free HR6.out
   clear b26 b06
   cases n with
   | mk nk nd' sg tn mi st lo h9 =>
   have HRW : Hid (w.heap.size ≤ R) := Lib.hid (by have := HZ.out; omega)
   by_cases k1 : κ = 1
   ·have t1 : (κ == 1) = true := by simp [k1]
    have HO4 : Hid (Tx.ownAt l ns i = if sg < 0 ∨ (l.signs.length : Int) ≤ sg then 23 else if tn < 0 ∨ 3 < tn ∨ st < 0 ∨ 3 < st ∨ (mi = true ∧ Tx.evenAt l sg = true) then 20 else if lo ≠ 0 ∨ h9 ≠ 0 then 20 else 0) := Lib.hid (HO3.out.trans (if_pos k1))
    clear k1
    by_cases kg : sg < 0 ∨ (l.signs.length : Int) ≤ sg
    ·have HV : Hid (Tx.ownAt l ns i = 23) := Lib.hid (HO4.out.trans (if_pos kg))
     obtain ⟨g1, hg1⟩ : ∃ z, decide (sg < 0) = z := ⟨_, rfl⟩
     obtain ⟨g2, hg2⟩ : ∃ z, decide ((l.signs.length : Int) ≤ sg) = z := ⟨_, rfl⟩
     have HZ : Hid ((g1 || g2) = true) := Lib.hid (by rw [← hg1, ← hg2]; simpa using kg)
     clear kg
     cases g1 <;> cases g2
     ·exact absurd HZ.out (by decide)
     all_goals (go_wp2_with fail; go_ret; rw [HV.out]; exact ⟨rfl, HB6.out⟩)
    ·have kn1 : ¬ sg < 0 := fun q => kg (.inl q)
     have kn2 : ¬ (l.signs.length : Int) ≤ sg := fun q => kg (.inr q)
     have g1 : decide (sg < 0) = false := decide_eq_false kn1
     have g2 : decide ((l.signs.length : Int) ≤ sg) = false := decide_eq_false kn2
     have hs0 : 0 ≤ sg := by omega
     have hs1 : sg < (l.signs.length : Int) := by omega
     have HO6 := Lib.hid (HO4.out.trans (if_neg kg))
     obtain ⟨bS, offS, rfl, hbS, hrow⟩ := HSG.out.five (by omega)
     obtain ⟨sx, hsx⟩ : ∃ sx, l.signs[sg.toNat]? = some sx := ⟨_, List.getElem?_eq_getElem (by omega)⟩
     obtain ⟨-, -, -, -, -, he5, -⟩ := hrow sg.toNat sx hsx
     obtain ⟨ev, hev⟩ : ∃ ev, Tx.evenAt l sg = ev := ⟨_, rfl⟩
     have hev2 : sx.even = ev := by rw [← hev]; unfold Tx.evenAt; rw [hsx]
     rw [hev] at HO6
     rw [hev2] at he5
     have s3 : W6.cell? ⟨bS, offS + sg.toNat * 5 + 3, none⟩ = some (.bool ev) := (World.cell?_of_block (HB6.out.block bS hbS)).trans he5
     clear kg kn1 kn2 hrow hsx he5 hev hev2
     by_cases kb : tn < 0 ∨ 3 < tn ∨ st < 0 ∨ 3 < st ∨ (mi = true ∧ ev = true)
     ·have HV : Hid (Tx.ownAt l ns i = 20) := Lib.hid (HO6.out.trans (if_pos kb))
      obtain ⟨j1, hj1⟩ : ∃ z, decide (tn < 0) = z := ⟨_, rfl⟩
      obtain ⟨j2, hj2⟩ : ∃ z, decide ((3 : Int) < tn) = z := ⟨_, rfl⟩
      obtain ⟨j3, hj3⟩ : ∃ z, decide (st < 0) = z := ⟨_, rfl⟩
      obtain ⟨j4, hj4⟩ : ∃ z, decide ((3 : Int) < st) = z := ⟨_, rfl⟩
      have HZ : Hid ((j1 || j2 || j3 || j4 || (mi && ev)) = true) := Lib.hid (by rw [← hj1, ← hj2, ← hj3, ← hj4]; simpa [or_assoc] using kb)
      clear kb
      cases j1 <;> cases j2 <;> cases j3 <;> cases j4 <;> cases mi <;> cases ev <;> first
       | exact absurd HZ.out (by decide)
       | (go_wp2_with fail; go_ret; rw [HV.out]; exact ⟨rfl, HB6.out⟩)
     ·have j1 : decide (tn < 0) = false := decide_eq_false fun q => kb (.inl q)
      have j2 : decide ((3 : Int) < tn) = false := decide_eq_false fun q => kb (.inr (.inl q))
      have j3 : decide (st < 0) = false := decide_eq_false fun q => kb (.inr (.inr (.inl q)))
      have j4 : decide ((3 : Int) < st) = false := decide_eq_false fun q => kb (.inr (.inr (.inr (.inl q))))
      have HO5 : Hid (Tx.ownAt l ns i = if lo ≠ 0 ∨ h9 ≠ 0 then 20 else 0) := Lib.hid (HO6.out.trans (if_neg kb))
      have HME : Hid ((mi && ev) = false) := Lib.hid (by cases mi <;> cases ev <;> simp_all)
      clear kb
      cases mi <;> cases ev
      case true.true => exact absurd HME.out (by decide)
      all_goals
       by_cases qlo : lo = 0
       case neg =>
        have HV : Hid (Tx.ownAt l ns i = 20) := Lib.hid (HO5.out.trans (if_pos (by simp [qlo])))
        (go_wp2_with fail; go_ret; rw [HV.out]; exact ⟨rfl, ((((HB6.out.setCell (p := ⟨R, 2, none⟩) HRW.out _).setCell (p := ⟨R, 3, none⟩) HRW.out _).setCell (p := ⟨R, 4, none⟩) HRW.out _).setCell (p := ⟨R, 5, none⟩) HRW.out _)⟩)
       subst qlo
       by_cases qh9 : h9 = 0
       case neg =>
        have HV : Hid (Tx.ownAt l ns i = 20) := Lib.hid (HO5.out.trans (if_pos (by simp [qh9])))
        (go_wp2_with fail; go_ret; rw [HV.out]; exact ⟨rfl, ((((HB6.out.setCell (p := ⟨R, 2, none⟩) HRW.out _).setCell (p := ⟨R, 3, none⟩) HRW.out _).setCell (p := ⟨R, 4, none⟩) HRW.out _).setCell (p := ⟨R, 5, none⟩) HRW.out _)⟩)
       subst qh9
       have HV : Hid (Tx.ownAt l ns i = 0) := Lib.hid (HO5.out.trans (if_neg (by simp)))
       (go_wp2_with fail; go_ret; rw [HV.out]; exact ⟨rfl, ((((HB6.out.setCell (p := ⟨R, 2, none⟩) HRW.out _).setCell (p := ⟨R, 3, none⟩) HRW.out _).setCell (p := ⟨R, 4, none⟩) HRW.out _).setCell (p := ⟨R, 5, none⟩) HRW.out _)⟩)
   by_cases k6 : κ = 6
   ·have t1 : (κ == 1) = false := by simp [k1]
    have t6 : (κ == 6) = true := by simp [k6]
    have HO4 : Hid (Tx.ownAt l ns i = if lo < 0 ∨ h9 < lo ∨ 9 < h9 ∨ h9 < 1 then 22 else if sg ≠ 0 ∨ tn ≠ 0 ∨ mi = true ∨ st ≠ 0 then 20 else 0) := Lib.hid (HO3.out.trans ((if_neg k1).trans (if_pos k6)))
    clear k1 k6
    by_cases kg : lo < 0 ∨ h9 < lo ∨ 9 < h9 ∨ h9 < 1
    ·have HV : Hid (Tx.ownAt l ns i = 22) := Lib.hid (HO4.out.trans (if_pos kg))
     obtain ⟨g1, hg1⟩ : ∃ z, decide (lo < 0) = z := ⟨_, rfl⟩
     obtain ⟨g2, hg2⟩ : ∃ z, decide (h9 < lo) = z := ⟨_, rfl⟩
     obtain ⟨g3, hg3⟩ : ∃ z, decide ((9 : Int) < h9) = z := ⟨_, rfl⟩
     obtain ⟨g4, hg4⟩ : ∃ z, decide (h9 < 1) = z := ⟨_, rfl⟩
     have HZ : Hid ((g1 || g2 || g3 || g4) = true) := Lib.hid (by rw [← hg1, ← hg2, ← hg3, ← hg4]; simpa [or_assoc] using kg)
     clear kg
     cases g1 <;> cases g2 <;> cases g3 <;> cases g4
     ·exact absurd HZ.out (by decide)
     all_goals (go_wp2_with fail; go_ret; rw [HV.out]; exact ⟨rfl, HB6.out⟩)
    ·have g1 : decide (lo < 0) = false := decide_eq_false fun q => kg (.inl q)
     have g2 : decide (h9 < lo) = false := decide_eq_false fun q => kg (.inr (.inl q))
     have g3 : decide ((9 : Int) < h9) = false := decide_eq_false fun q => kg (.inr (.inr (.inl q)))
     have g4 : decide (h9 < 1) = false := decide_eq_false fun q => kg (.inr (.inr (.inr q)))
     have HO5 : Hid (Tx.ownAt l ns i = if sg ≠ 0 ∨ tn ≠ 0 ∨ mi = true ∨ st ≠ 0 then 20 else 0) := Lib.hid (HO4.out.trans (if_neg kg))
     clear kg
     all_goals
      by_cases qsg : sg = 0
      case neg =>
       have HV : Hid (Tx.ownAt l ns i = 20) := Lib.hid (HO5.out.trans (if_pos (by simp [qsg])))
       (go_wp2_with fail; go_ret; rw [HV.out]; exact ⟨rfl, ((HB6.out.setCell (p := ⟨R, 6, none⟩) HRW.out _).setCell (p := ⟨R, 7, none⟩) HRW.out _)⟩)
      subst qsg
      by_cases qtn : tn = 0
      case neg =>
       have HV : Hid (Tx.ownAt l ns i = 20) := Lib.hid (HO5.out.trans (if_pos (by simp [qtn])))
       (go_wp2_with fail; go_ret; rw [HV.out]; exact ⟨rfl, ((HB6.out.setCell (p := ⟨R, 6, none⟩) HRW.out _).setCell (p := ⟨R, 7, none⟩) HRW.out _)⟩)
      subst qtn
      cases mi
      case true =>
       have HV : Hid (Tx.ownAt l ns i = 20) := Lib.hid (HO5.out.trans (if_pos (by simp)))
       (go_wp2_with fail; go_ret; rw [HV.out]; exact ⟨rfl, ((HB6.out.setCell (p := ⟨R, 6, none⟩) HRW.out _).setCell (p := ⟨R, 7, none⟩) HRW.out _)⟩)
      by_cases qst : st = 0
      case neg =>
       have HV : Hid (Tx.ownAt l ns i = 20) := Lib.hid (HO5.out.trans (if_pos (by simp [qst])))
       (go_wp2_with fail; go_ret; rw [HV.out]; exact ⟨rfl, ((HB6.out.setCell (p := ⟨R, 6, none⟩) HRW.out _).setCell (p := ⟨R, 7, none⟩) HRW.out _)⟩)
      subst qst
      have HV : Hid (Tx.ownAt l ns i = 0) := Lib.hid (HO5.out.trans (if_neg (by simp)))
      (go_wp2_with fail; go_ret; rw [HV.out]; exact ⟨rfl, ((HB6.out.setCell (p := ⟨R, 6, none⟩) HRW.out _).setCell (p := ⟨R, 7, none⟩) HRW.out _)⟩)
   have t1 : (κ == 1) = false := by simp [k1]
   have t6 : (κ == 6) = false := by simp [k6]
   have HO4 : Hid (Tx.ownAt l ns i = if sg ≠ 0 ∨ tn ≠ 0 ∨ mi = true ∨ st ≠ 0 ∨ lo ≠ 0 ∨ h9 ≠ 0 then 20 else 0) := Lib.hid (HO3.out.trans ((if_neg k1).trans (if_neg k6)))
   clear k1 k6
   by_cases qsg : sg = 0
   case neg =>
    have HV : Hid (Tx.ownAt l ns i = 20) := Lib.hid (HO4.out.trans (if_pos (by simp [qsg])))
    (go_wp2_with fail; go_ret; rw [HV.out]; exact ⟨rfl, HB6.out⟩)
   subst qsg
   by_cases qtn : tn = 0
   case neg =>
    have HV : Hid (Tx.ownAt l ns i = 20) := Lib.hid (HO4.out.trans (if_pos (by simp [qtn])))
    (go_wp2_with fail; go_ret; rw [HV.out]; exact ⟨rfl, HB6.out⟩)
   subst qtn
   cases mi
   case true =>
    have HV : Hid (Tx.ownAt l ns i = 20) := Lib.hid (HO4.out.trans (if_pos (by simp)))
    (go_wp2_with fail; go_ret; rw [HV.out]; exact ⟨rfl, HB6.out⟩)
   by_cases qst : st = 0
   case neg =>
    have HV : Hid (Tx.ownAt l ns i = 20) := Lib.hid (HO4.out.trans (if_pos (by simp [qst])))
    (go_wp2_with fail; go_ret; rw [HV.out]; exact ⟨rfl, HB6.out⟩)
   subst qst
   by_cases qlo : lo = 0
   case neg =>
    have HV : Hid (Tx.ownAt l ns i = 20) := Lib.hid (HO4.out.trans (if_pos (by simp [qlo])))
    (go_wp2_with fail; go_ret; rw [HV.out]; exact ⟨rfl, HB6.out⟩)
   subst qlo
   by_cases qh9 : h9 = 0
   case neg =>
    have HV : Hid (Tx.ownAt l ns i = 20) := Lib.hid (HO4.out.trans (if_pos (by simp [qh9])))
    (go_wp2_with fail; go_ret; rw [HV.out]; exact ⟨rfl, HB6.out⟩)
   subst qh9
   have HV : Hid (Tx.ownAt l ns i = 0) := Lib.hid (HO4.out.trans (if_neg (by simp)))
   (go_wp2_with fail; go_ret; rw [HV.out]; exact ⟨rfl, HB6.out⟩)
end Go.Proofs.YtenmkbpdkfhbjaaGreat
namespace Tx
theorem parV_eq {ns : List Node} {i p : Nat} (h1 : p < i) (h2 : dp ns p < dp ns i) (h3 : ∀ k, p < k → k < i → dp ns i ≤ dp ns k) : parV ns i = some p := by
 cases h : parV ns i with
 | none =>
  unfold parV at h
  have := List.find?_eq_none.1 h p (by simpa using h1)
  simp at this
  omega
 | some q =>
  obtain ⟨q1, q2, q3⟩ := par_some h
  rcases Nat.lt_trichotomy p q with r | r | r
  ·have := h3 q r q1
   omega
  ·rw [r]
  ·have := q3 p r h1
   omega
theorem parV_none {ns : List Node} {i : Nat} (h3 : ∀ k, k < i → dp ns i ≤ dp ns k) : parV ns i = none := by
 cases h : parV ns i with
 | none => rfl
 | some q =>
  obtain ⟨q1, q2, -⟩ := par_some h
  have := h3 q q1
  omega
def parI (ns : List Node) (i : Nat) : Int := match parV ns i with
 | some p => (p : Int)
 | none => -1
theorem parI_some {ns : List Node} {i p : Nat} (h : parV ns i = some p) : parI ns i = (p : Int) := by unfold parI; rw [h]
theorem parI_none {ns : List Node} {i : Nat} (h : parV ns i = none) : parI ns i = -1 := by unfold parI; rw [h]
end Tx
namespace Go.Proofs.YtenmkbpdkfhbjaaGreat
open Go Go.RowKit

set_option maxRecDepth 100000 in
set_option maxHeartbeats 16000000 in
theorem r2par_any (ns : List Tx.Node) (i : Nat) (w : World) (A : Option Addr) (c : Nat) (h : RdN w w.heap.size (.slice A ns.length c) ns) (hn : ns.length ≤ 1000000) (hi : i < ns.length) :
  Calls Tryz.prog 48 #[.agg #[.slice A ns.length c], .int .i64 i] w (RetE (Tx.parI ns i) w) := by
 have HR := Lib.hid h
 obtain ⟨b, off, rfl, hb, hcell⟩ := h.eight (by omega)
 have hcap : ns.length ≤ c ∧ c ≤ 9223372036854775807 := by
  obtain ⟨A', c', hv, h1, h2, -⟩ := h
  cases hv
  exact ⟨h1, h2⟩
 obtain ⟨Z, hZ⟩ : ∃ Z, Z = w.heap.size := ⟨_, rfl⟩
 have HZ := Lib.hid hZ
 obtain ⟨G, hG⟩ : ∃ G, G = w.alloc (.cells #[.slice (some ⟨b, off, none⟩) ns.length c] 27) := ⟨_, rfl⟩
 have hbl : Below Z w G := by rw [hG, hZ]; exact (Below.refl _ _).alloc (Nat.le_refl _) _
 have b1 : G.heap[Z]? = some (.cells #[.slice (some ⟨b, off, none⟩) ns.length c] 27 (0, 0)) := by rw [hG, hZ]; exact heap_alloc_new _ _
 have x0 := bx_cell b1
 have HBL := Lib.hid hbl
 have HRD : Hid (∀ k, k < ns.length → G.cell? ⟨b, off + k * 8 + 1, none⟩ = some (.int .i64 (Tx.dp ns k))) := Lib.hid fun k hk => (World.cell?_of_block (by rw [hZ] at hbl; exact hbl.block b hb)).trans (hcell k hk).2.1
 have HRES : Hid (∀ (v : Int) (W' : World), Tx.parI ns i = v → Below Z G W' → RetE (Tx.parI ns i) w (.returned (.int .i64 v)) W') := Lib.hid fun v W' q1 q2 => ⟨by rw [q1], by rw [← hZ]; exact hbl.trans q2⟩
 have hiI : (i : Int) < (ns.length : Int) := by omega
 have hi0 : (0 : Int) ≤ (i : Int) := by omega
 have hnI : (ns.length : Int) ≤ 1000000 := by omega
 have q0 := HRD.out i hi
 obtain ⟨di, hdi⟩ : ∃ di, di = Tx.dp ns i := ⟨_, rfl⟩
 rw [← hdi] at q0
 have HDI := Lib.hid hdi
 clear h hcell hbl b1 hZ hdi
 go_enter Tryz.func48, Tryz.ntmps48
 go_wp2_with fail
 rw [← HZ.out, ← hG]
 clear hG
 go_loopg [5] i (fun g v wr => ∃ m : Nat, m ≤ i ∧ g = m ∧ v = .int .i64 ((m : Int) - 1) ∧ (∃ n, wr = G.drewN n) ∧ ∀ j, m ≤ j → j < i → di ≤ Tx.dp ns j)
 case atStart => exact ⟨i, Nat.le_refl _, rfl, by simp, ⟨0, rfl⟩, fun j q1 q2 => by omega⟩
 case round =>
  obtain ⟨m, hm, hgm, rfl, ⟨n, rfl⟩, hall⟩ := hrel
  have HGM := Lib.hid hgm
  have HALL := Lib.hid hall
  clear hall hgm
  cases m with
  | zero =>
   have HV : Hid (Tx.parI ns i = -1) := Lib.hid (Tx.parI_none (Tx.parV_none fun k hk => by rw [← HDI.out]; exact HALL.out k (Nat.zero_le _) hk))
   go_wp2_with fail
   go_ret
   exact HRES.out _ _ HV.out (drew_below n)
  | succ m =>
   have hml : m < ns.length := by omega
   have q1 := HRD.out m hml
   obtain ⟨dm, hdm⟩ : ∃ dm, dm = Tx.dp ns m := ⟨_, rfl⟩
   rw [← hdm] at q1
   have HDM := Lib.hid hdm
   have hmI : (m : Int) < (ns.length : Int) := by omega
   have hm0 : (0 : Int) ≤ (m : Int) := by omega
   have he : ((m + 1 : Nat) : Int) - 1 = (m : Int) := by omega
   rw [he]
   clear he hdm
   by_cases hd : dm < di
   ·have d1 : decide (dm < di) = true := decide_eq_true hd
    have HV : Hid (Tx.parI ns i = (m : Int)) := Lib.hid (Tx.parI_some (Tx.parV_eq (by omega) (by rw [← HDM.out, ← HDI.out]; exact hd) fun k q2 q3 => by rw [← HDI.out]; exact HALL.out k (by omega) q3))
    clear hd
    go_upto_region 4 with fail
    go_quiet (fail)
    go_wp2_with fail
    go_ret
    exact HRES.out _ _ HV.out ((drew_below n).trans (drew_below _))
   ·have d1 : decide (dm < di) = false := decide_eq_false hd
    have HALL2 : Hid (∀ j, m ≤ j → j < i → di ≤ Tx.dp ns j) := Lib.hid fun j q2 q3 => by
     rcases Nat.lt_or_ge m j with r | r
     ·exact HALL.out j (by omega) q3
     ·have : j = m := by omega
      subst this
      rw [← HDM.out]
      omega
    clear hd
    go_upto_region 4 with fail
    go_quiet (fail)
    go_wp2_with fail
    go_roundg m
    case measure => have := HGM.out; omega
    case rel => exact ⟨m, by omega, rfl, by go_num, ⟨_, rfl⟩, HALL2.out⟩
end Go.Proofs.YtenmkbpdkfhbjaaGreat
