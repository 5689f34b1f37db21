/- ostraconref02.Same and groups.Same of equal texts.; CodeBack: a valid text can be written, in the tree code exactly if that lacks nothing, and is read as it was: the walk. Made by gen_cdback.py. -/
import Derived.Test.YtenmkbpdkfhbjaaGreatRaSgInts
import Derived.BigQuiet
import Derived.Test.YtenmkbpdkfhbjaaGreatRaLawCdOneWay
namespace Go.Proofs.YtenmkbpdkfhbjaaGreat
open Go Go.RowKit

set_option maxRecDepth 100000 in
set_option maxHeartbeats 8000000 in
theorem r2Same_eq (A A' : Option Addr) (c c' : Nat) (ns : List Tx.Node) (w : World) (h : RdN w w.heap.size (.slice A ns.length c) ns) (h' : RdN w w.heap.size (.slice A' ns.length c') ns) (hn : ns.length ≤ 1000000) :
    Calls Tryz.prog 21 #[.agg #[.slice A ns.length c], .agg #[.slice A' ns.length c']] w (RetBB true w) := by
  have HR := Lib.hid h
  have HR' := Lib.hid h'
  have hcap : ns.length ≤ c ∧ c ≤ 9223372036854775807 := by
    obtain ⟨_, _, hv, h1, h2, -⟩ := h
    cases hv
    exact ⟨h1, h2⟩
  have hcap' : ns.length ≤ c' ∧ c' ≤ 9223372036854775807 := by
    obtain ⟨_, _, hv, h1, h2, -⟩ := h'
    cases hv
    exact ⟨h1, h2⟩
  have hnI : (ns.length : Int) ≤ 1000000 := by omega
  obtain ⟨Z, hZ⟩ : ∃ Z, Z = w.heap.size := ⟨_, rfl⟩
  have HZ := Lib.hid hZ
  obtain ⟨G, hG⟩ : ∃ G, G = (w.alloc (.cells #[.slice A ns.length c] 27)).alloc (.cells #[.slice A' ns.length c'] 27) := ⟨_, rfl⟩
  have hbl : Below w.heap.size w G := by rw [hG]; exact ((Below.refl _ _).alloc (Nat.le_refl _) _).alloc (by simp) _
  have b0 : G.heap[Z]? = some (.cells #[.slice A ns.length c] 27 (0, 0)) := by rw [hG, hZ]; exact heap_alloc2_old _ _ _
  have b1 : G.heap[Z + 1]? = some (.cells #[.slice A' ns.length c'] 27 (0, 0)) := by rw [hG, hZ]; exact heap_alloc2_new _ _ _
  have x0 := bx_cell b0
  have x1 := bx_cell b1
  have HBL := Lib.hid hbl
  have HG := Lib.hid hG
  clear h h' hZ hG hbl b0 b1
  go_enter Tryz.func21, Tryz.ntmps21
  go_upto_region 1 with fail
  rw [← HZ.out, ← HG.out]
  go_wp2_with fail
  go_loopg [5] ns.length (fun g v wr => ∃ k : Nat, k ≤ ns.length ∧ g = ns.length - k ∧ v = .int .i64 (k : Int) ∧ ∃ n, wr = G.drewN n)
  case atStart => exact ⟨0, Nat.zero_le _, rfl, rfl, 0, rfl⟩
  case round =>
    obtain ⟨k, hk, rfl, rfl, n, rfl⟩ := hrel
    by_cases hlt : k < ns.length
    · have hltI : (k : Int) < (ns.length : Int) := by omega
      have hk0 : (0 : Int) ≤ (k : Int) := by omega
      obtain ⟨b, off, rfl, hb, hc⟩ := HR.out.eight (by omega)
      obtain ⟨b', off', rfl, hb', hc'⟩ := HR'.out.eight (by omega)
      obtain ⟨f0, f1, f2, f3, f4, f5, f6, f7⟩ := hc k hlt
      obtain ⟨g0, g1, g2, g3, g4, g5, g6, g7⟩ := hc' k hlt
      have hk1 : ∀ q : Addr, q.block = b → G.cell? q = w.cell? q := fun q hq => World.cell?_of_block (by rw [hq]; exact HBL.out.block b hb)
      have hk2 : ∀ q : Addr, q.block = b' → G.cell? q = w.cell? q := fun q hq => World.cell?_of_block (by rw [hq]; exact HBL.out.block b' hb')
      obtain ⟨m, hm⟩ : ∃ m, m = Tx.nd ns k := ⟨_, rfl⟩
      rw [← hm] at f0 f1 f2 f3 f4 f5 f6 f7 g0 g1 g2 g3 g4 g5 g6 g7
      replace f0 := (hk1 ⟨b, off + k * 8, none⟩ rfl).trans f0
      replace f1 := (hk1 ⟨b, off + k * 8 + 1, none⟩ rfl).trans f1
      replace f2 := (hk1 ⟨b, off + k * 8 + 2, none⟩ rfl).trans f2
      replace f3 := (hk1 ⟨b, off + k * 8 + 3, none⟩ rfl).trans f3
      replace f4 := (hk1 ⟨b, off + k * 8 + 4, none⟩ rfl).trans f4
      replace f5 := (hk1 ⟨b, off + k * 8 + 5, none⟩ rfl).trans f5
      replace f6 := (hk1 ⟨b, off + k * 8 + 6, none⟩ rfl).trans f6
      replace f7 := (hk1 ⟨b, off + k * 8 + 7, none⟩ rfl).trans f7
      replace g0 := (hk2 ⟨b', off' + k * 8, none⟩ rfl).trans g0
      replace g1 := (hk2 ⟨b', off' + k * 8 + 1, none⟩ rfl).trans g1
      replace g2 := (hk2 ⟨b', off' + k * 8 + 2, none⟩ rfl).trans g2
      replace g3 := (hk2 ⟨b', off' + k * 8 + 3, none⟩ rfl).trans g3
      replace g4 := (hk2 ⟨b', off' + k * 8 + 4, none⟩ rfl).trans g4
      replace g5 := (hk2 ⟨b', off' + k * 8 + 5, none⟩ rfl).trans g5
      replace g6 := (hk2 ⟨b', off' + k * 8 + 6, none⟩ rfl).trans g6
      replace g7 := (hk2 ⟨b', off' + k * 8 + 7, none⟩ rfl).trans g7
      clear hm hc hc' hk1 hk2
      go_upto_region 6 with fail
      go_quiet (fail)
      go_wp2_with fail
      go_roundg (ns.length - (k + 1))
      case measure => omega
      case rel => exact ⟨k + 1, by omega, rfl, by go_num, _, rfl⟩
    · have hltI : ¬ (k : Int) < (ns.length : Int) := by omega
      go_wp2_with fail
      go_ret
      exact ⟨rfl, HBL.out.trans (drew_below n)⟩
set_option maxRecDepth 100000 in
set_option maxHeartbeats 8000000 in
theorem eqNode_eq (A A' : Option Addr) (c c' : Nat) (ns : List Tx.Node) (w : World) (h : RdN w w.heap.size (.slice A ns.length c) ns) (h' : RdN w w.heap.size (.slice A' ns.length c') ns) (hn : ns.length ≤ 1000000) :
    Calls Tryz.prog 50 #[.slice A ns.length c, .slice A' ns.length c'] w (RetBB true w) := by
  have HR := Lib.hid h
  have HR' := Lib.hid h'
  have hcap : ns.length ≤ c ∧ c ≤ 9223372036854775807 := by
    obtain ⟨_, _, hv, h1, h2, -⟩ := h
    cases hv
    exact ⟨h1, h2⟩
  have hcap' : ns.length ≤ c' ∧ c' ≤ 9223372036854775807 := by
    obtain ⟨_, _, hv, h1, h2, -⟩ := h'
    cases hv
    exact ⟨h1, h2⟩
  have hnI : (ns.length : Int) ≤ 1000000 := by omega
  clear h h'
  go_enter Tryz.func50, Tryz.ntmps50
  go_wp2_with fail
  go_loopg [13] ns.length (fun g v wr => ∃ k : Nat, k ≤ ns.length ∧ g = ns.length - k ∧ v = .int .i64 (k : Int) ∧ ∃ n, wr = w.drewN n)
  case atStart => exact ⟨0, Nat.zero_le _, rfl, rfl, 0, rfl⟩
  case round =>
    obtain ⟨k, hk, rfl, rfl, n, rfl⟩ := hrel
    by_cases hlt : k < ns.length
    · have hltI : (k : Int) < (ns.length : Int) := by omega
      have hk0 : (0 : Int) ≤ (k : Int) := by omega
      obtain ⟨b, off, rfl, hb, hc⟩ := HR.out.eight (by omega)
      obtain ⟨b', off', rfl, hb', hc'⟩ := HR'.out.eight (by omega)
      obtain ⟨f0, f1, f2, f3, f4, f5, f6, f7⟩ := hc k hlt
      obtain ⟨g0, g1, g2, g3, g4, g5, g6, g7⟩ := hc' k hlt
      obtain ⟨m, hm⟩ : ∃ m, m = Tx.nd ns k := ⟨_, rfl⟩
      rw [← hm] at f0 f1 f2 f3 f4 f5 f6 f7 g0 g1 g2 g3 g4 g5 g6 g7
      clear hm hc hc'
      go_upto_region 6 with fail
      go_quiet (fail)
      go_wp2_with fail
      go_roundg (ns.length - (k + 1))
      case measure => omega
      case rel => exact ⟨k + 1, by omega, rfl, by go_num, _, rfl⟩
    · have hltI : ¬ (k : Int) < (ns.length : Int) := by omega
      go_wp2_with fail
      go_ret
      exact ⟨rfl, drew_below n⟩
set_option maxRecDepth 100000 in
set_option maxHeartbeats 8000000 in
theorem gpSame_eq (A A' : Option Addr) (c c' : Nat) (ns : List Tx.Node) (w : World) (h : RdN w w.heap.size (.slice A ns.length c) ns) (h' : RdN w w.heap.size (.slice A' ns.length c') ns) (hn : ns.length ≤ 1000000) :
    Calls Tryz.prog 27 #[.agg #[.slice A ns.length c], .agg #[.slice A' ns.length c']] w (RetBB true w) := by
  obtain ⟨Z, hZ⟩ : ∃ Z, Z = w.heap.size := ⟨_, rfl⟩
  have HZ := Lib.hid hZ
  obtain ⟨G, hG⟩ : ∃ G, G = (w.alloc (.cells #[.slice A ns.length c] 27)).alloc (.cells #[.slice A' ns.length c'] 27) := ⟨_, rfl⟩
  have hbl : Below w.heap.size w G := by rw [hG]; exact ((Below.refl _ _).alloc (Nat.le_refl _) _).alloc (by simp) _
  have b0 : G.heap[Z]? = some (.cells #[.slice A ns.length c] 27 (0, 0)) := by rw [hG, hZ]; exact heap_alloc2_old _ _ _
  have b1 : G.heap[Z + 1]? = some (.cells #[.slice A' ns.length c'] 27 (0, 0)) := by rw [hG, hZ]; exact heap_alloc2_new _ _ _
  have HC := Lib.hid (eqNode_eq A A' c c' ns G ((h.below hbl).more hbl.size) ((h'.below hbl).more hbl.size) hn)
  have x0 := bx_cell b0
  have x1 := bx_cell b1
  have HBL := Lib.hid hbl
  have HG := Lib.hid hG
  clear h h' hZ hG hbl b0 b1
  go_enter Tryz.func27, Tryz.ntmps27
  go_upto_region 1 with fail
  rw [← HZ.out, ← HG.out]
  go_wp2_with fail
  refine HC.out.mono ?_
  rintro e w2 ⟨rfl, hb2⟩
  have HB2 := Lib.hid (HBL.out.trans (hb2.mono HBL.out.size))
  clear hb2
  go_wp2_with fail
  go_ret
  exact ⟨rfl, HB2.out⟩
end Go.Proofs.YtenmkbpdkfhbjaaGreat
namespace Go.Proofs.YtenmkbpdkfhbjaaGreat
open Go Go.RowKit

theorem big_small3 {l : Sg.SList} {ns : List Tx.Node} (h : Cd.bigB l ns = false) : Sg.Small l ∧ ns.length ≤ 210 := by
  unfold Cd.bigB at h
  rw [Bool.or_eq_false_iff] at h
  have h1 := h.1
  unfold Sg.largeV at h1
  rw [Bool.or_eq_false_iff] at h1
  refine ⟨(Sg.big_small h1.1).1, ?_⟩
  have := of_decide_eq_false h.2
  omega
set_option maxRecDepth 100000 in
set_option maxHeartbeats 32000000 in
theorem CodeBack_any (p : Int) (us : Value) (A : Option Addr) (c : Nat) (l : Sg.SList) (ns : List Tx.Node) (w : World) (hr : RdSL w w.heap.size (.agg #[.int .i64 p, us]) l) (hn : RdN w w.heap.size (.slice A ns.length c) ns) :
    Calls Tryz.prog 7 #[.agg #[.int .i64 p, us, .slice A ns.length c]] w (RetBB true w) := by
  have HL := Lib.hid hr
  have HN := Lib.hid hn
  obtain ⟨A0, c0, hsh⟩ := rdsl_shape hr
  injection hsh with hsh
  injection hsh with hsh
  injection hsh with hp hsh
  injection hp with _ hp
  injection hsh with hsh _
  subst hp hsh
  have hcap : ns.length ≤ c ∧ c ≤ 9223372036854775807 := by
    obtain ⟨_, _, hv, h1, h2, -⟩ := hn
    cases hv
    exact ⟨h1, h2⟩
  have HWK : Hid (∀ W, Calls Tryz.prog 12 #[] W (RetBB true W)) := Lib.hid works3_any
  obtain ⟨Z, hZ⟩ : ∃ Z, Z = w.heap.size := ⟨_, rfl⟩
  have HZ := Lib.hid hZ
  obtain ⟨W1, hW1⟩ : ∃ W1, W1 = w.alloc (.cells #[.int .i64 l.periods, .slice A0 l.signs.length c0, .slice A ns.length c] 29) := ⟨_, rfl⟩
  have hbl : Below w.heap.size w W1 := by rw [hW1]; exact (Below.refl _ _).alloc (Nat.le_refl _) _
  have b1 : W1.heap[Z]? = some (.cells #[.int .i64 l.periods, .slice A0 l.signs.length c0, .slice A ns.length c] 29 (0, 0)) := by rw [hW1, hZ]; exact heap_alloc_new _ _
  have hz1 : Z < W1.heap.size := lt_of_some b1
  have HLX : Hid (∀ W, Below W1.heap.size W1 W → RdSL W W.heap.size (.agg #[.int .i64 l.periods, .slice A0 l.signs.length c0]) l ∧ RdN W W.heap.size (.slice A ns.length c) ns) := Lib.hid fun W q => by
    have hb := hbl.trans (q.mono hbl.size)
    exact ⟨HL.out.keep hb.size hb, (HN.out.below hb).more hb.size⟩
  have HBW : Hid (∀ W, Below W1.heap.size W1 W → Below w.heap.size w W) := Lib.hid fun W q => hbl.trans (q.mono hbl.size)
  have HX : Hid (∀ W, Below W1.heap.size W1 W → W.cell? ⟨Z, 0, none⟩ = some (.int .i64 l.periods) ∧ W.cell? ⟨Z, 1, none⟩ = some (.slice A0 l.signs.length c0) ∧ W.cell? ⟨Z, 2, none⟩ = some (.slice A ns.length c)) := Lib.hid fun W q => box3_cells ((q.block Z hz1).trans b1)
  obtain ⟨bf, hbf⟩ : ∃ bf, bf = Cd.bigB l ns := ⟨_, rfl⟩
  have HFAR : Hid (Calls Tryz.prog 11 #[.agg #[.int .i64 l.periods, .slice A0 l.signs.length c0, .slice A ns.length c]] W1 (RetBB bf W1)) := Lib.hid (hbf ▸ law2Big_any l.periods _ A c l ns W1 (HLX.out W1 (Below.refl _ _)).1)
  have HBF := Lib.hid hbf
  have HW1 := Lib.hid hW1
  obtain ⟨x0, x1, x2⟩ := HX.out W1 (Below.refl _ _)
  clear hZ hW1 hbl b1 hbf hr hn
  go_enter Tryz.func7, Tryz.ntmps7
  go_upto_region 1 with fail
  rw [← HZ.out, ← HW1.out]
  go_wp2_with fail
  refine HFAR.out.mono ?_
  rintro e w2 ⟨rfl, hb2⟩
  have HB2 := Lib.hid hb2
  clear hb2 x0 x1 x2 HFAR
  cases bf
  case true =>
    go_wp2_with fail
    refine (HWK.out w2).mono ?_
    rintro e w3 ⟨rfl, hb3⟩
    have HB3 := Lib.hid (HB2.out.trans (hb3.mono HB2.out.size))
    clear hb3
    go_wp2_with fail
    go_ret
    exact ⟨rfl, HBW.out w3 HB3.out⟩
  obtain ⟨hsm, hn210⟩ := big_small3 HBF.out.symm
  have HSM := Lib.hid hsm
  obtain ⟨ev, hev⟩ : ∃ ev, ev = Tx.checkT l ns := ⟨_, rfl⟩
  have HCK : Hid (Calls Tryz.prog 23 #[.agg #[.int .i64 l.periods, .slice A0 l.signs.length c0], .agg #[.slice A ns.length c]] w2 (RetE ev w2)) := Lib.hid (by
    have := r2Check_any l ns _ w2 A c (HLX.out w2 HB2.out).1 (HLX.out w2 HB2.out).2
    rwa [← hev] at this)
  have HEV := Lib.hid hev
  obtain ⟨x0, x1, x2⟩ := HX.out w2 HB2.out
  clear hsm hev
  go_wp2_with fail
  refine HCK.out.mono ?_
  rintro e w3 ⟨rfl, hb3⟩
  have HB3 := Lib.hid (HB2.out.trans (hb3.mono HB2.out.size))
  clear hb3 x0 x1 x2 HCK
  by_cases ke : ev = 0
  case neg =>
    have t0 : (ev == 0) = false := by simp [ke]
    have t0' : (ev != 0) = true := by simp [ke]
    clear ke
    go_wp2_with fail
    refine (HWK.out w3).mono ?_
    rintro e w4 ⟨rfl, hb4⟩
    have HB4 := Lib.hid (HB3.out.trans (hb4.mono HB3.out.size))
    clear hb4
    go_wp2_with fail
    go_ret
    exact ⟨rfl, HBW.out w4 HB4.out⟩
  subst ke
  have HOK : Hid (Tx.checkT l ns = 0) := Lib.hid HEV.out.symm
  have hn210I : (ns.length : Int) ≤ 210 := by omega
  go_wp2_with fail
  go_loopg [3] 2 (fun g v wr => ∃ k : Nat, 1 ≤ k ∧ k ≤ 3 ∧ g = 3 - k ∧ v = .int .i64 (k : Int) ∧ Below W1.heap.size W1 wr)
  case atStart => exact ⟨1, by omega, by omega, rfl, rfl, HB3.out⟩
  case round =>
    obtain ⟨k, hk1, hk3, rfl, rfl, hbr⟩ := hrel
    have HBR := Lib.hid hbr
    clear hbr
    by_cases hk4 : k ≤ 2
    · have hkI : (k : Int) ≤ 2 := by omega
      have HK4 := Lib.hid hk4
      have HK12 : Hid ((k : Int) = 1 ∨ (k : Int) = 2) := Lib.hid (by omega)
      by_cases hlost : Cd.lacksV (k : Int) ns = []
      · -- nothing is lost
        have HLOST : Hid (Cd.lacksV (k : Int) ns = []) := Lib.hid hlost
        obtain ⟨S, hS⟩ : ∃ S, S = Cd.bs (Cd.writeV (k : Int) l ns) := ⟨_, rfl⟩
        have HS := Lib.hid hS
        have hbw := Cd.back_way (kind := (k : Int)) (HK12.out) HOK.out HLOST.out
        have hsl : (S.size : Int) ≤ 65536 := by
          have h1 : S.size = (Cd.writeV (k : Int) l ns).length := by rw [hS]; rfl
          have := hbw.2
          omega
        have hsd : decide ((65536 : Int) < (S.size : Int)) = false := decide_eq_false (by omega)
        have hsm : S.size ≤ maxLen := by unfold maxLen; omega
        have HBWY := Lib.hid hbw.1
        clear hbw hS
        have HCP := Lib.hid (r1Copy_any _ l wr (HLX.out wr HBR.out).1 HSM.out)
        obtain ⟨x0, x1, x2⟩ := HX.out wr HBR.out
        go_wp2_with fail
        refine HCP.out.mono ?_
        rintro e w3 ⟨v, rfl, hr3, hb3⟩
        obtain ⟨A3, c3, rfl⟩ := rdsl_shape hr3
        have hb23 := HBR.out.trans (hb3.mono HBR.out.size)
        have HB3 := Lib.hid hb23
        have HR3 := Lib.hid hr3
        obtain ⟨x0', x1', x2'⟩ := HX.out w3 hb23
        clear hr3 hb3 hb23 HCP x0 x1 x2
        go_upto_region 7 with fail
        obtain ⟨Y, hY⟩ : ∃ Y, Y = w3.heap.size := ⟨_, rfl⟩
        obtain ⟨W4, hW4⟩ : ∃ W4, W4 = w3.alloc (.cells #[.int .i64 l.periods, .slice A3 l.signs.length c3] 24) := ⟨_, rfl⟩
        rw [← hW4, ← hY]
        have hb4 : Below Y w3 W4 := by rw [hW4, hY]; exact (Below.refl _ _).alloc (Nat.le_refl _) _
        have c4 : W4.heap[Y]? = some (.cells #[.int .i64 l.periods, .slice A3 l.signs.length c3] 24 (0, 0)) := by rw [hW4, hY]; exact heap_alloc_new _ _
        have hy4 : Y < W4.heap.size := lt_of_some c4
        have hy1 : W1.heap.size ≤ Y := by rw [hY]; exact HB3.out.size
        have HBY : Hid (∀ W, Below W4.heap.size W4 W → Below W1.heap.size W1 W ∧ W.cell? ⟨Y, 0, none⟩ = some (.int .i64 l.periods) ∧ W.cell? ⟨Y, 1, none⟩ = some (.slice A3 l.signs.length c3) ∧ RdSL W W.heap.size (.agg #[.int .i64 l.periods, .slice A3 l.signs.length c3]) l ∧ W.cell? ⟨Z, 0, none⟩ = some (.int .i64 l.periods) ∧ W.cell? ⟨Z, 1, none⟩ = some (.slice A0 l.signs.length c0) ∧ W.cell? ⟨Z, 2, none⟩ = some (.slice A ns.length c)) := Lib.hid fun W q => by
          have h1 := HB3.out.trans ((hb4.trans (q.mono (by omega))).mono hy1)
          have h2 := box2_cells ((q.block Y hy4).trans c4)
          have h3 := hb4.trans (q.mono (by omega))
          refine ⟨h1, h2.1, h2.2, HR3.out.keep ?_ ?_, HX.out W h1⟩
          · exact h3.size
          · rw [← hY]; exact h3
        have HTC : Hid (∀ W, Below W4.heap.size W4 W → Calls Tryz.prog 15 #[.agg #[.slice A ns.length c]] W (fun e w' => ∃ A' c', e = .returned (.agg #[.slice A' ns.length c']) ∧ Below W4.heap.size W4 w' ∧ RdN w' w'.heap.size (.slice A' ns.length c') ns)) := Lib.hid fun W q => by
          refine (r2Copy_any A c ns W (HLX.out W (HBY.out W q).1).2 (by omega)).mono ?_
          rintro e w' ⟨A', c', q1, q2, q3⟩
          exact ⟨A', c', q1, q.trans (q2.mono q.size), q3⟩
        have HLK : Hid (∀ (W : World) (A' : Option Addr) (c' : Nat), Below W4.heap.size W4 W → RdN W W.heap.size (.slice A' ns.length c') ns → Calls Tryz.prog 13 #[.int .i64 (k : Int), .agg #[.int .i64 l.periods, .slice A3 l.signs.length c3], .agg #[.slice A' ns.length c']] W (fun e w' => ∃ A2 c2, e = .returned (.tuple #[.slice A2 0 c2, .int .i64 0]) ∧ Below W4.heap.size W4 w')) := Lib.hid fun W A' c' q1 q2 => by
          have := Lacks_any (k : Int) l ns _ W A' c' (HBY.out W q1).2.2.2.1 q2
          refine this.mono ?_
          rintro e w' ⟨A2, c2, q3, q4, -⟩
          refine ⟨A2, c2, ?_, q1.trans (q4.mono q1.size)⟩
          have hq : Cd.lacksQ (k : Int) l ns = ([], 0) := by
            unfold Cd.lacksQ
            have e0 : Cd.lacksE (k : Int) l ns = 0 := by
              unfold Cd.lacksE
              rw [if_neg (by have := HK12.out; omega), HOK.out]
            rw [e0, if_neg (by simp), HLOST.out]
          simpa [hq] using q3
        have HWR : Hid (∀ (W : World) (A' : Option Addr) (c' : Nat), Below W4.heap.size W4 W → RdN W W.heap.size (.slice A' ns.length c') ns → Calls Tryz.prog 22 #[.int .i64 (k : Int), .agg #[.int .i64 l.periods, .slice A3 l.signs.length c3], .agg #[.slice A' ns.length c']] W (fun e w' => e = .returned (.tuple #[.string S, .int .i64 0]) ∧ Below W4.heap.size W4 w')) := Lib.hid fun W A' c' q1 q2 => by
          have := Write_any (k : Int) l ns _ W A' c' (HBY.out W q1).2.2.2.1 q2
          have hq : Cd.writeQ (k : Int) l ns = (Cd.writeV (k : Int) l ns, 0) := by
            unfold Cd.writeQ
            have e0 : Cd.lacksE (k : Int) l ns = 0 := by
              unfold Cd.lacksE
              rw [if_neg (by have := HK12.out; omega), HOK.out]
            rw [e0, if_neg (by simp)]
            rw [if_neg (by simp [HLOST.out])]
          rw [hq] at this
          refine this.mono ?_
          rintro e w' ⟨q3, q4⟩
          exact ⟨by rw [q3, HS.out], q1.trans (q4.mono q1.size)⟩
        clear hW4 hY hb4 c4 x0' x1' x2'
        obtain ⟨-, y0, y1, -, -, -, x2⟩ := HBY.out W4 (Below.refl _ _)
        go_cut [5, 6] from 30 to 38 (fun u v wc => (∃ A2 c2, u = .slice A2 0 c2) ∧ v = .int .i64 0 ∧ Below W4.heap.size W4 wc)
        case first =>
          go_region_with (first
            | (go_at_call 15; refine (HTC.out _ (drew_below 1)).mono ?_; rintro e w5 ⟨A5, c5, rfl, hb5, hn5⟩; have HB5 := Lib.hid hb5; have HN5 := Lib.hid hn5; obtain ⟨-, y0', y1', -, -, -, x2'⟩ := HBY.out w5 hb5; clear hb5 hn5)
            | (go_at_call 13; refine (HLK.out w5 _ _ HB5.out HN5.out).mono ?_; rintro e w6 ⟨A6, c6, rfl, hb6⟩; have HB6 := Lib.hid hb6; clear hb6))
          all_goals
            try go_wp2_with fail
            go_meet
            case rel => exact ⟨⟨_, _, rfl⟩, rfl, HB6.out⟩
        case rest =>
          obtain ⟨⟨A2, c2, rfl⟩, rfl, hb6⟩ := hcut
          obtain ⟨WA, hWA⟩ : ∃ WA, WA = wc := ⟨_, rfl⟩
          rw [← hWA] at hb6 ⊢
          have HB6 := Lib.hid hb6
          clear hWA hb6 y0 y1 x2
          obtain ⟨-, y0, y1, -, -, -, x2⟩ := HBY.out WA HB6.out
          go_upto_region 8 with fail
          go_cut [7, 8] from 39 to 47 (fun u v wc => u = .string S ∧ v = .int .i64 0 ∧ Below W4.heap.size W4 wc)
          case first =>
            go_region_with (first
              | (go_at_call 15; refine (HTC.out _ (HB6.out.trans (drew_below 1))).mono ?_; rintro e w7 ⟨A7, c7, rfl, hb7, hn7⟩; have HB7 := Lib.hid hb7; have HN7 := Lib.hid hn7; obtain ⟨-, y0', y1', -, -, -, x2'⟩ := HBY.out w7 hb7; clear hb7 hn7)
              | (go_at_call 22; refine (HWR.out w7 _ _ HB7.out HN7.out).mono ?_; rintro e w8 ⟨rfl, hb8⟩; have HB8 := Lib.hid hb8; clear hb8))
            all_goals
              try go_wp2_with fail
              go_meet
              case rel => exact ⟨rfl, rfl, HB8.out⟩
          case rest =>
            obtain ⟨rfl, rfl, hb8⟩ := hcut
            obtain ⟨WB, hWB⟩ : ∃ WB, WB = wc := ⟨_, rfl⟩
            rw [← hWB] at hb8 ⊢
            have HB8 := Lib.hid hb8
            clear hWB hb8 y0 y1 x2
            obtain ⟨-, y0, y1, -, -, -, x2⟩ := HBY.out WB HB8.out
            go_upto_region 9 with fail
            go_cut [70] from 48 to 69 (fun v wc => v = .bool false ∧ wc = WB)
            case first =>
              obtain ⟨z, hz⟩ : ∃ z, ((k : Int) == 1) = z := ⟨_, rfl⟩
              cases z
              all_goals
                go_wp2_with fail
                go_meet
                case rel => exact ⟨rfl, rfl⟩
            case rest =>
             obtain ⟨rfl, hwc⟩ := hcut
             replace hwc := hwc.symm
             subst hwc
             have hrd := Read_any (k : Int) l _ S hsm WB (HBY.out WB HB8.out).2.2.2.1
             rw [HS.out, Cd.bs_list, HBWY.out] at hrd
             have HRD : Hid (Calls Tryz.prog 19 #[.int .i64 (k : Int), .agg #[.int .i64 l.periods, .slice A3 l.signs.length c3], .string S] WB (fun e w' => ∃ A c, e = .returned (.tuple #[.agg #[.slice A ns.length c], .int .i64 0, .int .i64 0]) ∧ Below WB.heap.size WB w' ∧ RdN w' w'.heap.size (.slice A ns.length c) ns)) := Lib.hid (by
               rw [← HS.out] at hrd
               exact hrd.mono fun e w' ⟨A, c, q1, q2, q3⟩ => ⟨A, c, q1, q2, rds_of_own len_node q3⟩)
             clear hrd
             go_wp2_with fail
             refine HRD.out.mono ?_
             rintro e w9 ⟨A9, c9, rfl, hb9, hn9⟩
             have hb89 := HB8.out.trans (hb9.mono HB8.out.size)
             have HB9 := Lib.hid hb89
             have HN9 := Lib.hid hn9
             obtain ⟨-, -, -, -, -, -, x2'⟩ := HBY.out w9 hb89
             clear hb9 hb89 hn9 HRD y0 y1 x2
             go_upto_region 13 with fail
             obtain ⟨T, hT⟩ : ∃ T, T = w9.heap.size := ⟨_, rfl⟩
             obtain ⟨WC, hWC⟩ : ∃ WC, WC = w9.alloc (.cells #[.slice A9 ns.length c9] 27) := ⟨_, rfl⟩
             rw [← hWC, ← hT]
             have hbc : Below T w9 WC := by rw [hWC, hT]; exact (Below.refl _ _).alloc (Nat.le_refl _) _
             have cc : WC.heap[T]? = some (.cells #[.slice A9 ns.length c9] 27 (0, 0)) := by rw [hWC, hT]; exact heap_alloc_new _ _
             have htc : T < WC.heap.size := lt_of_some cc
             have ht4 : W4.heap.size ≤ T := by rw [hT]; exact HB9.out.size
             have HBT : Hid (∀ W, Below WC.heap.size WC W → Below W4.heap.size W4 W ∧ W.cell? ⟨T, 0, none⟩ = some (.slice A9 ns.length c9) ∧ RdN W W.heap.size (.slice A9 ns.length c9) ns) := Lib.hid fun W q => by
               have h3 := hbc.trans (q.mono (by omega))
               refine ⟨HB9.out.trans (h3.mono ht4), bx_cell ((q.block T htc).trans cc), (HN9.out.below ?_).more ?_⟩
               · rw [← hT]; exact h3
               · exact h3.size
             have HGS : Hid (∀ (W : World) (A' : Option Addr) (c' : Nat), Below WC.heap.size WC W → RdN W W.heap.size (.slice A' ns.length c') ns → Calls Tryz.prog 27 #[.agg #[.slice A9 ns.length c9], .agg #[.slice A' ns.length c']] W (fun e w' => e = .returned (.bool true) ∧ Below WC.heap.size WC w')) := Lib.hid fun W A' c' q1 q2 => by
               refine (gpSame_eq A9 A' c9 c' ns W (HBT.out W q1).2.2 q2 (by omega)).mono ?_
               rintro e w' ⟨q3, q4⟩
               exact ⟨q3, q1.trans (q4.mono q1.size)⟩
             have HRS : Hid (∀ (W : World), Below WC.heap.size WC W → Calls Tryz.prog 21 #[.agg #[.slice A9 ns.length c9], .agg #[.slice A ns.length c]] W (fun e w' => e = .returned (.bool true) ∧ Below WC.heap.size WC w')) := Lib.hid fun W q1 => by
               refine (r2Same_eq A9 A c9 c ns W (HBT.out W q1).2.2 (HLX.out W (HBY.out W (HBT.out W q1).1).1).2 (by omega)).mono ?_
               rintro e w' ⟨q3, q4⟩
               exact ⟨q3, q1.trans (q4.mono q1.size)⟩
             have HTD : Hid (∀ W, Below WC.heap.size WC W → Calls Tryz.prog 15 #[.agg #[.slice A ns.length c]] W (fun e w' => ∃ A' c', e = .returned (.agg #[.slice A' ns.length c']) ∧ Below WC.heap.size WC w' ∧ RdN w' w'.heap.size (.slice A' ns.length c') ns)) := Lib.hid fun W q => by
               refine (r2Copy_any A c ns W (HLX.out W (HBY.out W (HBT.out W q).1).1).2 (by omega)).mono ?_
               rintro e w' ⟨A', c', q1, q2, q3⟩
               exact ⟨A', c', q1, q.trans (q2.mono q.size), q3⟩
             clear hWC hT hbc cc x2'
             obtain ⟨hby, u0, -⟩ := HBT.out WC (Below.refl _ _)
             obtain ⟨-, -, -, -, -, -, x2⟩ := HBY.out WC hby
             clear hby
             go_cut [101] from 81 to 100 (fun v wc => v = .bool false ∧ Below WC.heap.size WC wc)
             case first =>
              go_region_with (first
               | (go_at_call 15; refine (HTD.out _ (drew_below 1)).mono ?_; rintro e wa ⟨Aa, ca, rfl, hba, hna⟩; have HBA := Lib.hid hba; have HNA := Lib.hid hna; obtain ⟨hby, u0', -⟩ := HBT.out wa hba; obtain ⟨-, -, -, -, -, -, x2'⟩ := HBY.out wa hby; clear hba hna hby)
               | (go_at_call 27; refine (HGS.out wa _ _ HBA.out HNA.out).mono ?_; rintro e wb ⟨rfl, hbb⟩; have HBB := Lib.hid hbb; obtain ⟨hby, u0'', -⟩ := HBT.out wb hbb; obtain ⟨-, -, -, -, -, -, x2''⟩ := HBY.out wb hby; clear hbb hby)
               | (go_at_call 21; refine (HRS.out wb HBB.out).mono ?_; rintro e wc ⟨rfl, hbc⟩; have HBC := Lib.hid hbc; clear hbc))
              all_goals
               try go_wp2_with fail
               go_meet
               case rel => exact ⟨rfl, HBC.out⟩
             case rest =>
               obtain ⟨rfl, hbd⟩ := hcut
               have HBD := Lib.hid (HBY.out _ (HBT.out _ hbd).1).1
               clear hbd
               go_wp2_with fail
               go_roundg (3 - (k + 1))
               case measure => have := HK4.out; omega
               case rel => exact ⟨k + 1, by omega, by have := HK4.out; omega, rfl, by go_num, HBD.out⟩
      · -- something is lost
        have hk2 : k = 2 := by
          rcases HK12.out with q | q
          · rw [q] at hlost
            exact absurd (Cd.lacks_line ns) hlost
          · omega
        subst hk2
        obtain ⟨ls, hls⟩ : ∃ ls, ls = Cd.lacksV 2 ns := ⟨_, rfl⟩
        have HLOST : Hid (Cd.lacksV 2 ns = ls) := Lib.hid hls.symm
        have HNE : Hid (ls ≠ []) := Lib.hid (by rw [hls]; exact hlost)
        have hlen : ((ls.length : Int) == 0) = false := by
          have := List.length_pos_iff.2 HNE.out
          exact beq_false_of_ne (by omega)
        clear hls hlost
        have HCP := Lib.hid (r1Copy_any _ l wr (HLX.out wr HBR.out).1 HSM.out)
        obtain ⟨x0, x1, x2⟩ := HX.out wr HBR.out
        go_wp2_with fail
        refine HCP.out.mono ?_
        rintro e w3 ⟨v, rfl, hr3, hb3⟩
        obtain ⟨A3, c3, rfl⟩ := rdsl_shape hr3
        have hb23 := HBR.out.trans (hb3.mono HBR.out.size)
        have HB3 := Lib.hid hb23
        have HR3 := Lib.hid hr3
        obtain ⟨x0', x1', x2'⟩ := HX.out w3 hb23
        clear hr3 hb3 hb23 HCP x0 x1 x2
        go_upto_region 7 with fail
        obtain ⟨Y, hY⟩ : ∃ Y, Y = w3.heap.size := ⟨_, rfl⟩
        obtain ⟨W4, hW4⟩ : ∃ W4, W4 = w3.alloc (.cells #[.int .i64 l.periods, .slice A3 l.signs.length c3] 24) := ⟨_, rfl⟩
        rw [← hW4, ← hY]
        have hb4 : Below Y w3 W4 := by rw [hW4, hY]; exact (Below.refl _ _).alloc (Nat.le_refl _) _
        have c4 : W4.heap[Y]? = some (.cells #[.int .i64 l.periods, .slice A3 l.signs.length c3] 24 (0, 0)) := by rw [hW4, hY]; exact heap_alloc_new _ _
        have hy4 : Y < W4.heap.size := lt_of_some c4
        have hy1 : W1.heap.size ≤ Y := by rw [hY]; exact HB3.out.size
        have HBY : Hid (∀ W, Below W4.heap.size W4 W → Below W1.heap.size W1 W ∧ W.cell? ⟨Y, 0, none⟩ = some (.int .i64 l.periods) ∧ W.cell? ⟨Y, 1, none⟩ = some (.slice A3 l.signs.length c3) ∧ RdSL W W.heap.size (.agg #[.int .i64 l.periods, .slice A3 l.signs.length c3]) l ∧ W.cell? ⟨Z, 0, none⟩ = some (.int .i64 l.periods) ∧ W.cell? ⟨Z, 1, none⟩ = some (.slice A0 l.signs.length c0) ∧ W.cell? ⟨Z, 2, none⟩ = some (.slice A ns.length c)) := Lib.hid fun W q => by
          have h1 := HB3.out.trans ((hb4.trans (q.mono (by omega))).mono hy1)
          have h2 := box2_cells ((q.block Y hy4).trans c4)
          have h3 := hb4.trans (q.mono (by omega))
          refine ⟨h1, h2.1, h2.2, HR3.out.keep ?_ ?_, HX.out W h1⟩
          · exact h3.size
          · rw [← hY]; exact h3
        have HTC : Hid (∀ W, Below W4.heap.size W4 W → Calls Tryz.prog 15 #[.agg #[.slice A ns.length c]] W (fun e w' => ∃ A' c', e = .returned (.agg #[.slice A' ns.length c']) ∧ Below W4.heap.size W4 w' ∧ RdN w' w'.heap.size (.slice A' ns.length c') ns)) := Lib.hid fun W q => by
          refine (r2Copy_any A c ns W (HLX.out W (HBY.out W q).1).2 (by omega)).mono ?_
          rintro e w' ⟨A', c', q1, q2, q3⟩
          exact ⟨A', c', q1, q.trans (q2.mono q.size), q3⟩
        have HLK : Hid (∀ (W : World) (A' : Option Addr) (c' : Nat), Below W4.heap.size W4 W → RdN W W.heap.size (.slice A' ns.length c') ns → Calls Tryz.prog 13 #[.int .i64 2, .agg #[.int .i64 l.periods, .slice A3 l.signs.length c3], .agg #[.slice A' ns.length c']] W (fun e w' => ∃ A2 c2, e = .returned (.tuple #[.slice A2 ls.length c2, .int .i64 0]) ∧ Below W4.heap.size W4 w')) := Lib.hid fun W A' c' q1 q2 => by
          have := Lacks_any 2 l ns _ W A' c' (HBY.out W q1).2.2.2.1 q2
          refine this.mono ?_
          rintro e w' ⟨A2, c2, q3, q4, -⟩
          refine ⟨A2, c2, ?_, q1.trans (q4.mono q1.size)⟩
          have hq : Cd.lacksQ 2 l ns = (ls, 0) := by
            unfold Cd.lacksQ
            have e0 : Cd.lacksE 2 l ns = 0 := by
              unfold Cd.lacksE
              rw [if_neg (by have := HK12.out; omega), HOK.out]
            rw [e0, if_neg (by simp), HLOST.out]
          simpa [hq] using q3
        have HWR : Hid (∀ (W : World) (A' : Option Addr) (c' : Nat), Below W4.heap.size W4 W → RdN W W.heap.size (.slice A' ns.length c') ns → Calls Tryz.prog 22 #[.int .i64 2, .agg #[.int .i64 l.periods, .slice A3 l.signs.length c3], .agg #[.slice A' ns.length c']] W (fun e w' => e = .returned (.tuple #[.string ⟨#[]⟩, .int .i64 30]) ∧ Below W4.heap.size W4 w')) := Lib.hid fun W A' c' q1 q2 => by
          have := Write_any 2 l ns _ W A' c' (HBY.out W q1).2.2.2.1 q2
          have hq : Cd.writeQ 2 l ns = ([], 30) := by
            unfold Cd.writeQ
            have e0 : Cd.lacksE 2 l ns = 0 := by
              unfold Cd.lacksE
              rw [if_neg (by have := HK12.out; omega), HOK.out]
            rw [e0, if_neg (by simp)]
            rw [if_pos (by rw [HLOST.out]; exact HNE.out)]
          rw [hq] at this
          refine this.mono ?_
          rintro e w' ⟨q3, q4⟩
          exact ⟨q3, q1.trans (q4.mono q1.size)⟩
        clear hW4 hY hb4 c4 x0' x1' x2'
        obtain ⟨-, y0, y1, -, -, -, x2⟩ := HBY.out W4 (Below.refl _ _)
        go_cut [5, 6] from 30 to 38 (fun u v wc => (∃ A2 c2, u = .slice A2 ls.length c2) ∧ v = .int .i64 0 ∧ Below W4.heap.size W4 wc)
        case first =>
          go_region_with (first
            | (go_at_call 15; refine (HTC.out _ (drew_below 1)).mono ?_; rintro e w5 ⟨A5, c5, rfl, hb5, hn5⟩; have HB5 := Lib.hid hb5; have HN5 := Lib.hid hn5; obtain ⟨-, y0', y1', -, -, -, x2'⟩ := HBY.out w5 hb5; clear hb5 hn5)
            | (go_at_call 13; refine (HLK.out w5 _ _ HB5.out HN5.out).mono ?_; rintro e w6 ⟨A6, c6, rfl, hb6⟩; have HB6 := Lib.hid hb6; clear hb6))
          all_goals
            try go_wp2_with fail
            go_meet
            case rel => exact ⟨⟨_, _, rfl⟩, rfl, HB6.out⟩
        case rest =>
          obtain ⟨⟨A2, c2, rfl⟩, rfl, hb6⟩ := hcut
          obtain ⟨WA, hWA⟩ : ∃ WA, WA = wc := ⟨_, rfl⟩
          rw [← hWA] at hb6 ⊢
          have HB6 := Lib.hid hb6
          clear hWA hb6 y0 y1 x2
          obtain ⟨-, y0, y1, -, -, -, x2⟩ := HBY.out WA HB6.out
          go_upto_region 8 with fail
          go_cut [7, 8] from 39 to 47 (fun u v wc => u = .string ⟨#[]⟩ ∧ v = .int .i64 30 ∧ Below W4.heap.size W4 wc)
          case first =>
            go_region_with (first
              | (go_at_call 15; refine (HTC.out _ (HB6.out.trans (drew_below 1))).mono ?_; rintro e w7 ⟨A7, c7, rfl, hb7, hn7⟩; have HB7 := Lib.hid hb7; have HN7 := Lib.hid hn7; obtain ⟨-, y0', y1', -, -, -, x2'⟩ := HBY.out w7 hb7; clear hb7 hn7)
              | (go_at_call 22; refine (HWR.out w7 _ _ HB7.out HN7.out).mono ?_; rintro e w8 ⟨rfl, hb8⟩; have HB8 := Lib.hid hb8; clear hb8))
            all_goals
              try go_wp2_with fail
              go_meet
              case rel => exact ⟨rfl, rfl, HB8.out⟩
          case rest =>
            obtain ⟨rfl, rfl, hb8⟩ := hcut
            obtain ⟨WB, hWB⟩ : ∃ WB, WB = wc := ⟨_, rfl⟩
            rw [← hWB] at hb8 ⊢
            have HB8 := Lib.hid hb8
            clear hWB hb8 y0 y1 x2
            obtain ⟨-, y0, y1, -, -, -, x2⟩ := HBY.out WB HB8.out
            go_wp2_with fail
            go_roundg (3 - (2 + 1))
            case measure => have := HK4.out; omega
            case rel => exact ⟨2 + 1, by omega, by omega, rfl, by go_num, (HBY.out _ HB8.out).1⟩
    · have hk5 : k = 3 := by omega
      subst hk5
      go_wp2_with fail
      refine (HWK.out wr).mono ?_
      rintro e w4 ⟨rfl, hb4⟩
      have HB4 := Lib.hid (HBR.out.trans (hb4.mono HBR.out.size))
      clear hb4
      go_wp2_with fail
      go_ret
      exact ⟨rfl, HBW.out w4 HB4.out⟩
end Go.Proofs.YtenmkbpdkfhbjaaGreat
