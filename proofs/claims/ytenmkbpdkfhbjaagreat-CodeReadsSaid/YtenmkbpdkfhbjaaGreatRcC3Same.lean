/- What the laws of the codes begin with: far, Big, ostraconref02.Copy.; ostraconref03.Lacks.; ostraconref03.Read.; ostraconref02.Same and groups.Same of equal texts. -/
import Derived.Test.YtenmkbpdkfhbjaaGreatRcCSide
import Derived.Test.YtenmkbpdkfhbjaaGreatRcCdVisit
import Derived.Test.YtenmkbpdkfhbjaaGreatRcR3Wrap
import Derived.Test.YtenmkbpdkfhbjaaGreatRcCWrite
import Derived.Test.YtenmkbpdkfhbjaaGreatRcT2Check
import Derived.Test.YtenmkbpdkfhbjaaGreatRcSgCopy
import Derived.Test.YtenmkbpdkfhbjaaGreatRcR3Text
import Derived.Test.YtenmkbpdkfhbjaaGreatRcCRead
import Derived.Test.YtenmkbpdkfhbjaaGreatRcSgRCheck
import Derived.BigQuiet
namespace Go.Proofs.YtenmkbpdkfhbjaaGreat
open Go Go.RowKit

def Cd.farB (l : Sg.SList) (t : ByteArray) : Bool := Sg.largeV l || decide (3000 < t.size)
theorem box4_cells {W : World} {Z : Nat} {T : TypeId} {c0 c1 c2 c3 : Value} (h : W.heap[Z]? = some (.cells #[c0, c1, c2, c3] T (0, 0))) : W.cell? ⟨Z, 0, none⟩ = some c0 ∧ W.cell? ⟨Z, 1, none⟩ = some c1 ∧ W.cell? ⟨Z, 2, none⟩ = some c2 ∧ W.cell? ⟨Z, 3, none⟩ = some c3 := by
 simp [World.cell?, h]
set_option maxRecDepth 100000 in
set_option maxHeartbeats 4000000 in
theorem law3far_any (p kind : Int) (us : Value) (l : Sg.SList) (t : ByteArray) (w : World) (hr : RdSL w w.heap.size (.agg #[.int .i64 p, us]) l) :
  Calls Tryz.prog 18 #[.agg #[.int .i64 p, us, .int .i64 kind, .string t]] w (RetBB (Cd.farB l t) w) := by
 have HL := Lib.hid hr
 obtain ⟨⟨u, hu, hg⟩, hf⟩ := hr
 injection hu with hu
 injection hu with hu
 injection hu with hp hu
 injection hu with hu _
 subst hu
 obtain ⟨A0, c0, rfl⟩ := hg.form
 obtain ⟨Z, hZ⟩ : ∃ Z, Z = w.heap.size := ⟨_, rfl⟩
 have HZ := Lib.hid hZ
 obtain ⟨W1, hW1⟩ : ∃ W1, W1 = w.alloc (.cells #[.int .i64 p, .slice A0 l.signs.length c0, .int .i64 kind, .string t] 41) := ⟨_, rfl⟩
 have hbl : Below w.heap.size w W1 := by rw [hW1]; exact (Below.refl _ _).alloc (Nat.le_refl _) _
 have b1 : W1.heap[Z]? = some (.cells #[.int .i64 p, .slice A0 l.signs.length c0, .int .i64 kind, .string t] 41 (0, 0)) := by rw [hW1, hZ]; exact heap_alloc_new _ _
 have hz1 : Z < W1.heap.size := lt_of_some b1
 obtain ⟨bg, hbg⟩ : ∃ bg, bg = Sg.largeV l := ⟨_, rfl⟩
 have HC : Hid (Calls Tryz.prog 34 #[.agg #[.int .i64 p, .slice A0 l.signs.length c0]] W1 (RetBB bg W1)) := Lib.hid (hbg ▸ l1Large_any _ l W1 (HL.out.keep hbl.size hbl))
 have HV : Hid (Cd.farB l t = (bg || decide (3000 < t.size))) := Lib.hid (by rw [hbg]; rfl)
 have HBL := Lib.hid hbl
 have HB1 := Lib.hid b1
 have HW1 := Lib.hid hW1
 obtain ⟨x0, x1, x2, x3⟩ := box4_cells b1
 clear hZ hW1 hbl b1 hbg hg hf hp
 go_enter Tryz.func18, Tryz.ntmps18
 go_upto_region 1 with fail
 rw [← HZ.out, ← HW1.out]
 go_wp2_with fail
 refine HC.out.mono ?_
 rintro e w2 ⟨rfl, hb2⟩
 have HB2 := Lib.hid (HBL.out.trans (hb2.mono HBL.out.size))
 obtain ⟨x0, x1, x2, x3⟩ := box4_cells ((hb2.block Z hz1).trans HB1.out)
 clear hb2
 cases bg
 ·by_cases ht : 3000 < t.size
  ·have d1 : decide ((3000 : Int) < (t.size : Int)) = true := decide_eq_true (by omega)
   have HVV : Hid (Cd.farB l t = true) := Lib.hid (by rw [HV.out, decide_eq_true ht]; rfl)
   clear ht
   go_wp2_with fail
   go_ret
   rw [HVV.out]
   exact ⟨rfl, HB2.out⟩
  ·have d1 : decide ((3000 : Int) < (t.size : Int)) = false := decide_eq_false (by omega)
   have HVV : Hid (Cd.farB l t = false) := Lib.hid (by rw [HV.out, decide_eq_false ht]; rfl)
   clear ht
   go_wp2_with fail
   go_ret
   rw [HVV.out]
   exact ⟨rfl, HB2.out⟩
 ·have HVV : Hid (Cd.farB l t = true) := Lib.hid (by rw [HV.out]; rfl)
  go_wp2_with fail
  go_ret
  rw [HVV.out]
  exact ⟨rfl, HB2.out⟩
end Go.Proofs.YtenmkbpdkfhbjaaGreat
namespace Go.Proofs.YtenmkbpdkfhbjaaGreat
open Go Go.RowKit

theorem r3known_any (kind : Int) (w : World) : Calls Tryz.prog 37 #[.int .i64 kind] w (fun e w' => e = .returned (.bool (decide (kind = 1 ∨ kind = 2))) ∧ w' = w) := by
 obtain ⟨z1, hz1⟩ : ∃ z, (kind == 1) = z := ⟨_, rfl⟩
 obtain ⟨z2, hz2⟩ : ∃ z, (kind == 2) = z := ⟨_, rfl⟩
 have HV : Hid (decide (kind = 1 ∨ kind = 2) = (z1 || z2)) := Lib.hid (by rw [← hz1, ← hz2, Bool.decide_or]; rfl)
 cases z1 <;> cases z2 <;> (go_enter Tryz.func37, Tryz.ntmps37; go_wp2_with fail; go_ret; exact ⟨by rw [HV.out]; rfl, rfl⟩)
end Go.Proofs.YtenmkbpdkfhbjaaGreat
namespace Go.Proofs.YtenmkbpdkfhbjaaGreat
open Go Go.RowKit

theorem results_read3 {tmps : Array Value} {w : World} {g : Nat} {u v7 v8 : Value} (hp : tmps.getD 6 undef = .pointer (some ⟨g, 0, none⟩)) (h7 : tmps.getD 7 undef = v7) (h8 : tmps.getD 8 undef = v8) (hg : w.heap[g]? = some (.cells #[u] 27 (0, 0))) :
  (results Tryz.f20 tmps).run Tryz.prog w = .ok (.tuple #[.agg #[u], v7, v8]) w := by
 have hp' : tmps[6]?.getD undef = .pointer (some ⟨g, 0, none⟩) := by simpa using hp
 have h7' : tmps[7]?.getD undef = v7 := by simpa using h7
 have h8' : tmps[8]?.getD undef = v8 := by simpa using h8
 have hl : w.cell? ⟨g, 0, none⟩ = some u := bx_cell hg
 simp only [results, show Tryz.f20.results = #[.cell 6 27, .tmp 7, .tmp 8] from rfl]
 simp [hp', h7', h8', asAddr, hl, go_sem, Sem.run_bind, Result.andThen]
theorem below_past {W W' : World} {R B : Nat} (hg : W.grownBy W' (some R)) (hB : B ≤ W.heap.size) (hR : B ≤ R) : Below B W W' :=
 ⟨hg.os, hg.tape, hg.output, hg.size, fun b hb => hg.block b (by omega) fun e => by cases e; omega⟩
theorem drewRead {q : List Tx.Node × Int × Int} {w W : World} {e : Ending} (h : RetRead q w e W) : RetRead q w e W.drew := by
 obtain ⟨A, c, h1, h2, h3⟩ := h
 exact ⟨A, c, h1, h2.drew, own_below h3 (Below.refl _ _).drew⟩
set_option maxRecDepth 100000 in
set_option maxHeartbeats 16000000 in
theorem r3Read_any (kind : Int) (l : Sg.SList) (vl : Value) (s : ByteArray) (hs0 : s.size ≤ maxLen) (w : World) (hl : RdSL w w.heap.size vl l) : Calls Tryz.prog 20 #[.int .i64 kind, vl, .string s] w (RetRead (Cd.readV kind l s.data.toList) w) := by
 have HL := Lib.hid hl
 obtain ⟨⟨us, rfl, hsg⟩, -⟩ := hl
 obtain ⟨As, cs, rfl, -⟩ := id hsg
 clear hsg
 obtain ⟨Z, hZ⟩ : ∃ Z, Z = w.heap.size := ⟨_, rfl⟩
 have HZ := Lib.hid hZ
 obtain ⟨bk, hbk⟩ : ∃ bk, bk = decide (kind = 1 ∨ kind = 2) := ⟨_, rfl⟩
 have HKN : Hid (∀ W, Calls Tryz.prog 37 #[.int .i64 kind] W (fun e w' => e = .returned (.bool bk) ∧ w' = W)) := Lib.hid fun W => by rw [hbk]; exact r3known_any kind W
 have HBK := Lib.hid hbk
 have HSI : Hid (s.data.toList.length = s.size) := Lib.hid (by simp)
 have HM := Lib.hid hs0
 clear hbk hs0
 go_enter Tryz.func20, Tryz.ntmps20
 go_wp2_with fail
 rw [← hZ]
 refine at_worldF ?_
 intro WL hWL
 have hbl : Below Z w WL := by rw [hWL, hZ]; exact ((Below.refl _ _).alloc (Nat.le_refl _) _).alloc (by simp) _
 have hsz : WL.heap.size = Z + 2 := by rw [hWL, hZ]; simp
 have b0 : WL.heap[Z]? = some (.cells #[.int .i64 l.periods, .slice As l.signs.length cs] 24 (0, 0)) := by rw [hWL, hZ]; exact heap_alloc2_old _ _ _
 have b1 : WL.heap[Z + 1]? = some (.cells #[.slice none 0 0] 27 (0, 0)) := by rw [hWL, hZ]; exact heap_alloc2_new _ _ _
 clear hWL
 refine (HKN.out WL).mono ?_
 rintro e w1 ⟨rfl, hw1⟩
 subst hw1
 have HB := Lib.hid hbl
 have HB0 := Lib.hid b0
 have HB1 := Lib.hid b1
 have OWN : Hid (∀ W : World, Below (Z + 2) w1 W → W.cell? ⟨Z, 0, none⟩ = some (.int .i64 l.periods) ∧ W.cell? ⟨Z, 1, none⟩ = some (.slice As l.signs.length cs) ∧ W.cell? ⟨Z + 1, 0, none⟩ = some (.slice none 0 0) ∧ W.frozen? ⟨Z + 1, 0, none⟩ = false ∧ Below w.heap.size w W) := Lib.hid fun W hW => by
  have e0 := (hW.block Z (by omega)).trans HB0.out
  have e1 := (hW.block (Z + 1) (by omega)).trans HB1.out
  refine ⟨by simp [World.cell?, e0], by simp [World.cell?, e0], by simp [World.cell?, e1], bx_free e1, ?_⟩
  rw [← HZ.out]
  exact HB.out.trans (hW.mono (by omega))
 have HERR : Hid (∀ (W : World) (a b : Int), Below (Z + 2) w1 W → Cd.readV kind l s.data.toList = ([], a, b) → (W.setCell ⟨Z + 1, 0, none⟩ (.slice none 0 0)).heap[Z + 1]? = some (.cells #[.slice none 0 0] 27 (0, 0)) ∧ RetRead (Cd.readV kind l s.data.toList) w (.returned (.tuple #[.agg #[.slice none 0 0], .int .i64 a, .int .i64 b])) (W.setCell ⟨Z + 1, 0, none⟩ (.slice none 0 0))) := Lib.hid fun W a b hW hq => by
  have e1 := (hW.block (Z + 1) (by omega)).trans HB1.out
  refine ⟨bx_set e1, RetRead.nil hq ((OWN.out W hW).2.2.2.2.setCell (p := ⟨Z + 1, 0, none⟩) (by show w.heap.size ≤ Z + 1; have := HZ.out; omega) _)⟩
 obtain ⟨x0, x1, x2, x3, -⟩ := OWN.out w1 (Below.refl _ _)
 have HSZ1 := Lib.hid hsz
 clear hbl b0 b1 hZ hsz
 cases bk
 ·have hq : Cd.readV kind l s.data.toList = ([], 0, 1) := by
   have hk := of_decide_eq_false HBK.out.symm
   unfold Cd.readV
   rw [if_pos (by omega)]
  have HQ := Lib.hid (HERR.out w1 0 1 (Below.refl _ _) hq)
  clear hq
  go_wp2_with fail
  refine bodyPost_ret (results_read3 rfl rfl rfl HQ.out.1) rfl HQ.out.2
 have HKK : Hid (kind = 1 ∨ kind = 2) := Lib.hid (of_decide_eq_true HBK.out.symm)
 obtain ⟨ec, hec⟩ : ∃ ec, ec = Sg.checkV l := ⟨_, rfl⟩
 have HEC := Lib.hid hec
 have HSC : Hid (Calls Tryz.prog 43 #[.agg #[.int .i64 l.periods, .slice As l.signs.length cs]] w1 (RetIB ec w1)) := Lib.hid (by rw [hec]; exact r1Check_any _ l w1 (HL.out.keep (OWN.out w1 (Below.refl _ _)).2.2.2.2.size (OWN.out w1 (Below.refl _ _)).2.2.2.2))
 clear hec
 go_wp2_with fail
 refine HSC.out.mono ?_
 rintro e w3 ⟨rfl, hb3⟩
 have hs3 : Z + 2 ≤ w3.heap.size := by have := hb3.size; have := HSZ1.out; omega
 have hb3' : Below (Z + 2) w1 w3 := hb3.mono (by have := HSZ1.out; omega)
 have HB3 := Lib.hid hb3'
 obtain ⟨x0, x1, x2, x3, -⟩ := OWN.out w3 hb3'
 clear hb3 hb3' HSC
 by_cases k0 : ec = 0
 case neg =>
  have hq : Cd.readV kind l s.data.toList = ([], 0, ec) := by unfold Cd.readV; rw [if_neg (by have := HKK.out; omega), ← HEC.out, if_pos k0]
  have HQ := Lib.hid (HERR.out w3 0 ec HB3.out hq)
  have t0 : (ec == 0) = false := by simp [k0]
  have t0' : (ec != 0) = true := by simp [k0]
  clear hq k0
  go_wp2_with fail
  refine bodyPost_ret (results_read3 rfl rfl rfl HQ.out.1) rfl HQ.out.2
 subst k0
 by_cases k1 : 65536 < s.size
 ·have hq : Cd.readV kind l s.data.toList = ([], 0, 2) := by unfold Cd.readV; rw [if_neg (by have := HKK.out; omega), ← HEC.out, if_neg (by simp), if_pos (by have := HSI.out; omega)]
  have HQ := Lib.hid (HERR.out w3 0 2 HB3.out hq)
  have k1I : (65536 : Int) < (s.size : Int) := by omega
  clear hq k1
  go_wp2_with fail
  refine bodyPost_ret (results_read3 rfl rfl rfl HQ.out.1) rfl HQ.out.2
 have k1I : ¬ (65536 : Int) < (s.size : Int) := by omega
 have HS6 : Hid (s.size ≤ 65536) := Lib.hid (by omega)
 have HRV : Hid (Cd.readV kind l s.data.toList = match Cd.parseG s.data.toList kind with
   | .bad k => ([], (k : Int), 4)
   | .ok xs _ => match Cd.unknownV l (Cd.codesL xs) with
    | some k => ([], (k : Int), 23)
    | none => if Tx.checkT l (Cd.flatL 0 (Cd.resL (Cd.signIx l) xs)) ≠ 0 then ([], 0, Tx.checkT l (Cd.flatL 0 (Cd.resL (Cd.signIx l) xs))) else (Cd.flatL 0 (Cd.resL (Cd.signIx l) xs), 0, 0)) := Lib.hid (by
  unfold Cd.readV
  rw [if_neg (by have := HKK.out; omega), ← HEC.out, if_neg (by simp), if_neg (by have := HSI.out; omega)]
  cases Cd.parseG s.data.toList kind with
  | bad k => rfl
  | ok xs k => simp only; cases Cd.unknownV l (Cd.codesL xs) <;> rfl)
 clear k1
 obtain ⟨R, hR⟩ : ∃ R, R = w3.heap.size := ⟨_, rfl⟩
 obtain ⟨w4, hw4⟩ : ∃ w4, w4 = w3.alloc (.cells #[.int .i64 l.periods, .slice As l.signs.length cs, .string s, .int .i64 kind, .int .i64 0, .int .i64 (-1)] 82) := ⟨_, rfl⟩
 have hb4 : Below w3.heap.size w3 w4 := by rw [hw4]; exact (Below.refl _ _).alloc (Nat.le_refl _) _
 have hs4 : w4.heap.size = R + 1 := by rw [hw4, hR]; simp
 have hR3 : R3Is R l As cs s kind 0 (-1) w4 := ⟨by rw [hw4, hR]; exact heap_alloc_new _ _, Nat.zero_le _⟩
 have hb4' : Below (Z + 2) w1 w4 := HB3.out.trans (hb4.mono hs3)
 have hRZ : Z + 2 ≤ R := by omega
 have HLR : LR w4 R l As cs := fun W hg => by
  have h1 := below_past (B := Z + 2) hg (by omega) hRZ
  have h2 := (OWN.out W (hb4'.trans h1)).2.2.2.2
  exact HL.out.keep h2.size h2
 have HPA : Hid (Calls Tryz.prog 44 #[.pointer (some ⟨R, 0, none⟩)] w4 (RetT3 R l As cs s kind (-1) (Cd.parseG s.data.toList kind) w4)) := Lib.hid (by
  rcases HKK.out with rfl | rfl
  ·exact text3_line R l As cs s (-1) w4 hR3 (by have := HS6.out; omega) HEC.out.symm HLR
  ·exact text3_tree R l As cs s (-1) w4 hR3 (by have := HS6.out; omega) HEC.out.symm HLR)
 have HW4 := Lib.hid hw4
 have HR := Lib.hid hR
 have HB4 := Lib.hid hb4'
 have HS4 := Lib.hid hs4
 have HRZ := Lib.hid hRZ
 clear hR hw4 hb4 hs4 hR3 hb4' HLR hRZ
 unfold RetT3 at HPA
 go_upto_region 9 with fail
 rw [← HW4.out, ← HR.out]
 cases hp : Cd.parseG s.data.toList kind with
 | bad pk =>
  rw [hp] at HPA HRV
  clear hp
  go_wp2_with fail
  refine HPA.out.mono ?_
  rintro e w5 ⟨hg5, u', rfl, hr5⟩
  have hb5 : Below (Z + 2) w1 w5 := HB4.out.trans (below_past hg5 (by have := HS4.out; have := HRZ.out; omega) HRZ.out)
  have hs5 : R < w5.heap.size := hr5.lt
  have hr6 : R3Is R l As cs s kind pk u' (w5.alloc (.cells #[.slice none 0 0] 27)) := hr5.below ((Below.refl _ _).alloc (Nat.le_refl _) _)
  have hb6 : Below (Z + 2) w1 (w5.alloc (.cells #[.slice none 0 0] 27)) := hb5.trans ((Below.refl _ _).alloc (by have := HRZ.out; omega) _)
  obtain ⟨w6, hw6⟩ : ∃ w6, w6 = w5.alloc (.cells #[.slice none 0 0] 27) := ⟨_, rfl⟩
  rw [← hw6] at hr6 hb6
  have HW6 := Lib.hid hw6
  obtain ⟨-, -, -, -, c4, -, -, -, -⟩ := hr6.at
  obtain ⟨x0, x1, x2, x3, -⟩ := OWN.out w6 hb6
  have HQ := Lib.hid (HERR.out w6 pk 4 hb6 HRV.out)
  clear hg5 hr5 hb5 hs5 hr6 hb6 hw6
  go_upto_region 10 with fail
  rw [← HW6.out]
  go_upto_region 11 with fail
  go_region
  go_wp2_with fail
  refine bodyPost_ret (results_read3 rfl rfl rfl HQ.out.1) rfl ?_
  exact drewRead HQ.out.2
 | ok xs pk =>
  rw [hp] at HPA HRV
  have HSZ := Lib.hid (Cd.parse_size hp)
  clear hp
  go_wp2_with fail
  refine HPA.out.mono ?_
  rintro e w5 ⟨hg5, A5, c5, rfl, hr5, ho5⟩
  have hb5 : Below (Z + 2) w1 w5 := HB4.out.trans (below_past hg5 (by have := HS4.out; have := HRZ.out; omega) HRZ.out)
  have hs5 : R < w5.heap.size := hr5.lt
  obtain ⟨ms, hms⟩ : ∃ ms, ms = Cd.nodL l xs := ⟨_, rfl⟩
  rw [← hms] at ho5 ⊢
  have hal : Below w5.heap.size w5 (w5.alloc (.cells #[.slice A5 ms.length c5] 27)) := (Below.refl _ _).alloc (Nat.le_refl _) _
  have hr6 := hr5.below hal
  have hb6 : Below (Z + 2) w1 (w5.alloc (.cells #[.slice A5 ms.length c5] 27)) := hb5.trans (hal.mono (by have := HRZ.out; omega))
  have ho6 := own_below ho5 hal
  have ht6 : (w5.alloc (.cells #[.slice A5 ms.length c5] 27)).heap[w5.heap.size]? = some (.cells #[.slice A5 ms.length c5] 27 (0, 0)) := heap_alloc_new _ _
  obtain ⟨w6, hw6⟩ : ∃ w6, w6 = w5.alloc (.cells #[.slice A5 ms.length c5] 27) := ⟨_, rfl⟩
  have hs6 : w6.heap.size = w5.heap.size + 1 := by rw [hw6]; simp
  rw [← hw6] at hr6 hb6 ho6 ht6
  obtain ⟨X, hX⟩ : ∃ X, X = w5.heap.size := ⟨_, rfl⟩
  rw [← hX] at ht6
  have HX := Lib.hid hX
  have HW6 := Lib.hid hw6
  have HMS := Lib.hid hms
  have HO6 := Lib.hid ho6
  have HT6 := Lib.hid ht6
  have HB6 := Lib.hid hb6
  have HR6 := Lib.hid hr6
  have HXZ : Hid (Z + 2 ≤ X ∧ X < w6.heap.size ∧ R < X) := Lib.hid (by have := HRZ.out; omega)
  have HU : Hid (Cd.unkF l (-1) (Cd.codesL xs) = match Cd.unknownV l (Cd.codesL xs) with | some k => (k : Int) | none => -1) := Lib.hid (Cd.unk_neg l _)
  obtain ⟨un, hun⟩ : ∃ un, un = Cd.unknownV l (Cd.codesL xs) := ⟨_, rfl⟩
  have HUN := Lib.hid hun
  rw [← hun] at HU
  obtain ⟨uu, huu⟩ : ∃ uu, uu = Cd.unkF l (-1) (Cd.codesL xs) := ⟨_, rfl⟩
  rw [← huu] at HU HR6
  have hr6 := HR6.out
  obtain ⟨-, -, -, -, -, c5', -, -, -⟩ := hr6.at
  obtain ⟨x0, x1, x2, x3, -⟩ := OWN.out w6 hb6
  have x4 := bx_cell ht6
  clear hg5 hr5 ho5 hb5 hs5 hms hal hr6 hb6 ho6 ht6 hs6 hw6 hX hun huu
  go_upto_region 10 with fail
  rw [← HW6.out, ← HX.out]
  cases un with
  | some uk =>
   have hq : Cd.readV kind l s.data.toList = ([], (uk : Int), 23) := by rw [HRV.out, ← HUN.out]
   have HQ := Lib.hid (HERR.out w6 uk 23 HB6.out hq)
   have huk : uu = (uk : Int) := HU.out
   have d1 : decide ((0 : Int) ≤ (uk : Int)) = true := by simp
   subst huk
   clear hq
   go_upto_region 13 with fail
   go_region
   go_wp2_with fail
   refine bodyPost_ret (results_read3 rfl rfl rfl HQ.out.1) rfl ?_
   exact drewRead HQ.out.2
  | none =>
   have huk : uu = -1 := HU.out
   subst huk
   have HKN2 : Hid (ms = Cd.flatL 0 (Cd.resL (Cd.signIx l) xs)) := Lib.hid (by
    rw [HMS.out]
    unfold Cd.nodL
    rw [Cd.res_knownL xs (Cd.unknown_none HUN.out.symm)])
   have HRN : Hid (Cd.readV kind l s.data.toList = if Tx.checkT l ms ≠ 0 then ([], 0, Tx.checkT l ms) else (ms, 0, 0)) := Lib.hid (by rw [HRV.out, ← HUN.out, HKN2.out])
   have hbw6 := (OWN.out w6 HB6.out).2.2.2.2
   obtain ⟨ev, hev⟩ : ∃ ev, ev = Tx.checkT l ms := ⟨_, rfl⟩
   have HGC : Hid (Calls Tryz.prog 23 #[.agg #[.int .i64 l.periods, .slice As l.signs.length cs], .agg #[.slice A5 ms.length c5]] w6 (RetE ev w6)) := Lib.hid (by rw [hev]; exact r2Check_any l ms _ w6 A5 c5 (HL.out.keep hbw6.size hbw6) (rds_of_own len_node HO6.out))
   have HEV := Lib.hid hev
   have HBW6 := Lib.hid hbw6
   clear hbw6 hev
   go_wp2_with fail
   refine HGC.out.mono ?_
   rintro e w8 ⟨rfl, hb8⟩
   have HB8 : Hid (Below (Z + 2) w1 w8) := Lib.hid (HB6.out.trans (hb8.mono (by have := HXZ.out; omega)))
   have HT8 : Hid (w8.heap[X]? = some (.cells #[.slice A5 ms.length c5] 27 (0, 0))) := Lib.hid ((hb8.block X HXZ.out.2.1).trans HT6.out)
   have HO8 := Lib.hid (own_below HO6.out hb8)
   obtain ⟨x0, x1, x2, x3, hbw8⟩ := OWN.out w8 HB8.out
   have HBW8 := Lib.hid hbw8
   have x4 := bx_cell HT8.out
   have HZl : Hid (w.heap.size ≤ Z + 1) := Lib.hid (by have := HZ.out; omega)
   have HB18 := Lib.hid ((HB8.out.block (Z + 1) (by have := HSZ1.out; omega)).trans HB1.out)
   clear hb8 HGC hbw8
   by_cases ke : ev = 0
   ·have hq : Cd.readV kind l s.data.toList = (ms, 0, 0) := by rw [HRN.out, ← HEV.out, if_neg (by simp [ke])]
    have HRQ := Lib.hid hq
    clear hq
    subst ke
    go_wp2_with fail
    refine bodyPost_ret (results_read3 rfl rfl rfl (bx_set HB18.out)) rfl ?_
    rw [HRQ.out]
    exact ⟨A5, c5, rfl, HBW8.out.setCell (p := ⟨Z + 1, 0, none⟩) HZl.out _, (ownsRow_setCell_below HO8.out (by show Z + 1 < w4.heap.size; have := HS4.out; have := HRZ.out; omega) _).mono (by have := HZ.out; have := HS4.out; have := HRZ.out; omega)⟩
   ·have hq : Cd.readV kind l s.data.toList = ([], 0, ev) := by rw [HRN.out, ← HEV.out, if_pos ke]
    have HQ := Lib.hid (HERR.out w8 0 ev HB8.out hq)
    have t0 : (ev == 0) = false := by simp [ke]
    have t0' : (ev != 0) = true := by simp [ke]
    clear hq ke
    go_wp2_with fail
    refine bodyPost_ret (results_read3 rfl rfl rfl HQ.out.1) rfl HQ.out.2
end Go.Proofs.YtenmkbpdkfhbjaaGreat
namespace Go.Proofs.YtenmkbpdkfhbjaaGreat
open Go Go.RowKit

set_option maxRecDepth 100000 in
set_option maxHeartbeats 8000000 in
theorem r2Same_eq (A A' : Option Addr) (c c' : Nat) (ns : List Tx.Node) (w : World) (h : RdN w w.heap.size (.slice A ns.length c) ns) (h' : RdN w w.heap.size (.slice A' ns.length c') ns) (hn : ns.length ≤ 1000000) :
  Calls Tryz.prog 21 #[.agg #[.slice A ns.length c], .agg #[.slice A' ns.length c']] w (RetBB true w) := by
 have HR := Lib.hid h
 have HR' := Lib.hid h'
 have hcap : ns.length ≤ c ∧ c ≤ 9223372036854775807 := by
  obtain ⟨_, _, hv, h1, h2, -⟩ := h
  cases hv
  exact ⟨h1, h2⟩
 have hcap' : ns.length ≤ c' ∧ c' ≤ 9223372036854775807 := by
  obtain ⟨_, _, hv, h1, h2, -⟩ := h'
  cases hv
  exact ⟨h1, h2⟩
 have hnI : (ns.length : Int) ≤ 1000000 := by omega
 obtain ⟨Z, hZ⟩ : ∃ Z, Z = w.heap.size := ⟨_, rfl⟩
 have HZ := Lib.hid hZ
 obtain ⟨G, hG⟩ : ∃ G, G = (w.alloc (.cells #[.slice A ns.length c] 27)).alloc (.cells #[.slice A' ns.length c'] 27) := ⟨_, rfl⟩
 have hbl : Below w.heap.size w G := by rw [hG]; exact ((Below.refl _ _).alloc (Nat.le_refl _) _).alloc (by simp) _
 have b0 : G.heap[Z]? = some (.cells #[.slice A ns.length c] 27 (0, 0)) := by rw [hG, hZ]; exact heap_alloc2_old _ _ _
 have b1 : G.heap[Z + 1]? = some (.cells #[.slice A' ns.length c'] 27 (0, 0)) := by rw [hG, hZ]; exact heap_alloc2_new _ _ _
 have x0 := bx_cell b0
 have x1 := bx_cell b1
 have HBL := Lib.hid hbl
 have HG := Lib.hid hG
 clear h h' hZ hG hbl b0 b1
 go_enter Tryz.func21, Tryz.ntmps21
 go_upto_region 1 with fail
 rw [← HZ.out, ← HG.out]
 go_wp2_with fail
 go_loopg [5] ns.length (fun g v wr => ∃ k : Nat, k ≤ ns.length ∧ g = ns.length - k ∧ v = .int .i64 (k : Int) ∧ ∃ n, wr = G.drewN n)
 case atStart => exact ⟨0, Nat.zero_le _, rfl, rfl, 0, rfl⟩
 case round =>
  obtain ⟨k, hk, rfl, rfl, n, rfl⟩ := hrel
  by_cases hlt : k < ns.length
  ·have hltI : (k : Int) < (ns.length : Int) := by omega
   have hk0 : (0 : Int) ≤ (k : Int) := by omega
   obtain ⟨b, off, rfl, hb, hc⟩ := HR.out.eight (by omega)
   obtain ⟨b', off', rfl, hb', hc'⟩ := HR'.out.eight (by omega)
   obtain ⟨f0, f1, f2, f3, f4, f5, f6, f7⟩ := hc k hlt
   obtain ⟨g0, g1, g2, g3, g4, g5, g6, g7⟩ := hc' k hlt
   have hk1 : ∀ q : Addr, q.block = b → G.cell? q = w.cell? q := fun q hq => World.cell?_of_block (by rw [hq]; exact HBL.out.block b hb)
   have hk2 : ∀ q : Addr, q.block = b' → G.cell? q = w.cell? q := fun q hq => World.cell?_of_block (by rw [hq]; exact HBL.out.block b' hb')
   obtain ⟨m, hm⟩ : ∃ m, m = Tx.nd ns k := ⟨_, rfl⟩
   rw [← hm] at f0 f1 f2 f3 f4 f5 f6 f7 g0 g1 g2 g3 g4 g5 g6 g7
   replace f0 := (hk1 ⟨b, off + k * 8, none⟩ rfl).trans f0
   replace f1 := (hk1 ⟨b, off + k * 8 + 1, none⟩ rfl).trans f1
   replace f2 := (hk1 ⟨b, off + k * 8 + 2, none⟩ rfl).trans f2
   replace f3 := (hk1 ⟨b, off + k * 8 + 3, none⟩ rfl).trans f3
   replace f4 := (hk1 ⟨b, off + k * 8 + 4, none⟩ rfl).trans f4
   replace f5 := (hk1 ⟨b, off + k * 8 + 5, none⟩ rfl).trans f5
   replace f6 := (hk1 ⟨b, off + k * 8 + 6, none⟩ rfl).trans f6
   replace f7 := (hk1 ⟨b, off + k * 8 + 7, none⟩ rfl).trans f7
   replace g0 := (hk2 ⟨b', off' + k * 8, none⟩ rfl).trans g0
   replace g1 := (hk2 ⟨b', off' + k * 8 + 1, none⟩ rfl).trans g1
   replace g2 := (hk2 ⟨b', off' + k * 8 + 2, none⟩ rfl).trans g2
   replace g3 := (hk2 ⟨b', off' + k * 8 + 3, none⟩ rfl).trans g3
   replace g4 := (hk2 ⟨b', off' + k * 8 + 4, none⟩ rfl).trans g4
   replace g5 := (hk2 ⟨b', off' + k * 8 + 5, none⟩ rfl).trans g5
   replace g6 := (hk2 ⟨b', off' + k * 8 + 6, none⟩ rfl).trans g6
   replace g7 := (hk2 ⟨b', off' + k * 8 + 7, none⟩ rfl).trans g7
   clear hm hc hc' hk1 hk2
   go_upto_region 6 with fail
   go_quiet (fail)
   go_wp2_with fail
   go_roundg (ns.length - (k + 1))
   case measure => omega
   case rel => exact ⟨k + 1, by omega, rfl, by go_num, _, rfl⟩
  ·have hltI : ¬ (k : Int) < (ns.length : Int) := by omega
   go_wp2_with fail
   go_ret
   exact ⟨rfl, HBL.out.trans (drew_below n)⟩
end Go.Proofs.YtenmkbpdkfhbjaaGreat
