/- code.Lacks.; Small facts on rows of signs that are made.; ostraconref01.Copy. -/
import Derived.Test.YtenmkbpdkfhbjaaGreatRcCRead
import Derived.Test.YtenmkbpdkfhbjaaGreatRcShelf
import Derived.Test.YtenmkbpdkfhbjaaGreatRcSgCheck
import Derived.Lib.SmallJoins
import Derived.Test.YtenmkbpdkfhbjaaGreatRcIdle
namespace Cd
def cannotB (n : Tx.Node) : Bool := (n.kind == 1 && !(n.state == 0)) || (n.kind == 6 && !(n.lo == n.hi))
theorem cannot_eq {l : Sg.SList} {b : Option Tx.Node} {n : Tx.Node} (h : Tx.ownV l b n = 0) : cannotB n = lackB 2 n := by
 unfold Tx.ownV at h
 by_cases h1 : n.kind < 1 ∨ 7 < n.kind
 ·rw [if_pos h1] at h
  exact absurd h (by decide)
 rw [if_neg h1] at h
 by_cases h2 : n.depth < 0 ∨ 4 < n.depth ∨ Tx.most b < n.depth
 ·rw [if_pos h2] at h
  exact absurd h (by decide)
 rw [if_neg h2] at h
 unfold cannotB lackB
 by_cases k1 : n.kind = 1
 ·rw [if_pos k1] at h
  by_cases h3 : n.sign < 0 ∨ (l.signs.length : Int) ≤ n.sign
  ·rw [if_pos h3] at h
   exact absurd h (by decide)
  rw [if_neg h3] at h
  by_cases h4 : n.turn < 0 ∨ 3 < n.turn ∨ n.state < 0 ∨ 3 < n.state ∨ (n.mirror = true ∧ Tx.evenAt l n.sign = true)
  ·rw [if_pos h4] at h
   exact absurd h (by decide)
  rw [if_neg h4] at h
  by_cases h5 : n.lo ≠ 0 ∨ n.hi ≠ 0
  ·rw [if_pos h5] at h
   exact absurd h (by decide)
  have e1 : n.lo = 0 := by omega
  have e2 : n.hi = 0 := by omega
  by_cases q : n.state = 0 <;> simp [k1, e1, e2, q]
 ·rw [if_neg k1] at h
  by_cases k6 : n.kind = 6
  ·rw [if_pos k6] at h
   by_cases h3 : n.lo < 0 ∨ n.hi < n.lo ∨ 9 < n.hi ∨ n.hi < 1
   ·rw [if_pos h3] at h
    exact absurd h (by decide)
   rw [if_neg h3] at h
   by_cases h4 : n.sign ≠ 0 ∨ n.turn ≠ 0 ∨ n.mirror = true ∨ n.state ≠ 0
   ·rw [if_pos h4] at h
    exact absurd h (by decide)
   have e1 : n.state = 0 := by omega
   by_cases q : n.lo = n.hi <;> simp [k6, e1, q]
  ·rw [if_neg k6] at h
   by_cases h3 : n.sign ≠ 0 ∨ n.turn ≠ 0 ∨ n.mirror = true ∨ n.state ≠ 0 ∨ n.lo ≠ 0 ∨ n.hi ≠ 0
   ·rw [if_pos h3] at h
    exact absurd h (by decide)
   have e1 : n.state = 0 := by omega
   have e2 : n.lo = 0 := by omega
   have e3 : n.hi = 0 := by omega
   simp [e1, e2, e3]
end Cd
namespace Go.Proofs.YtenmkbpdkfhbjaaGreat
open Go Go.RowKit

theorem lc_cannot_any (n : Tx.Node) (w : World) : Calls Tryz.prog 138 #[.agg #[], .agg (encN n).toArray] w (RetFam false w) := by
 have HB : Hid (∀ o o', Below w.heap.size w ((w.alloc o).alloc o')) := Lib.hid fun o o' => ((Below.refl _ _).alloc (Nat.le_refl _) _).alloc (by simp) _
 unfold encN encNz
 go_enter Tryz.func138, Tryz.ntmps138
 go_wp2_with fail
 go_ret
 exact ⟨rfl, HB.out _ _⟩
theorem tc_cannot_any (n : Tx.Node) (w : World) : Calls Tryz.prog 177 #[.agg #[], .agg (encN n).toArray] w (RetFam (Cd.cannotB n) w) := by
 obtain ⟨z1, hz1⟩ : ∃ z, (n.kind == 1) = z := ⟨_, rfl⟩
 obtain ⟨z2, hz2⟩ : ∃ z, (n.kind == 6) = z := ⟨_, rfl⟩
 obtain ⟨z3, hz3⟩ : ∃ z, (n.state == 0) = z := ⟨_, rfl⟩
 obtain ⟨z4, hz4⟩ : ∃ z, (n.lo == n.hi) = z := ⟨_, rfl⟩
 have HV : Hid (Cd.cannotB n = ((z1 && !z3) || (z2 && !z4))) := Lib.hid (by rw [← hz1, ← hz2, ← hz3, ← hz4]; rfl)
 have g3 : (n.state != 0) = !z3 := by rw [← hz3]; rfl
 have g4 : (n.lo != n.hi) = !z4 := by rw [← hz4]; rfl
 have HB : Hid (∀ o o', Below w.heap.size w ((w.alloc o).alloc o')) := Lib.hid fun o o' => ((Below.refl _ _).alloc (Nat.le_refl _) _).alloc (by simp) _
 unfold encN encNz
 cases z1 <;> cases z2 <;> cases z3 <;> cases z4 <;> (simp only [Bool.not_true, Bool.not_false] at g3 g4; go_enter Tryz.func177, Tryz.ntmps177; go_wp2_with fail; go_ret; rw [HV.out]; exact ⟨rfl, HB.out _ _⟩)
def RetLk (q : List Int × Int) (w : World) (e : Ending) (w' : World) : Prop :=
 ∃ A c, e = .returned (.tuple #[.slice A q.1.length c, .int .i64 q.2]) ∧ Below w.heap.size w w' ∧ w'.ownsRow w.heap.size 3 1 (.slice A q.1.length c) q.1.length (q.1.flatMap encInt)
theorem RetLk.nil {q : List Int × Int} {a : Int} {w w' : World} (hq : q = ([], a)) (hb : Below w.heap.size w w') : RetLk q w (.returned (.tuple #[.slice none 0 0, .int .i64 a])) w' := by
 subst hq
 exact ⟨none, 0, rfl, hb, World.ownsRow_nil _ _ _ _⟩
def Cd.lacksQ (kind : Int) (l : Sg.SList) (ns : List Tx.Node) : List Int × Int := if Cd.lacksE kind l ns ≠ 0 then ([], Cd.lacksE kind l ns) else (Cd.lacksV kind ns, 0)
def Cd.lackTo (cb : Tx.Node → Bool) (ns : List Tx.Node) (k : Nat) : List Int := ((List.range k).filter fun i => cb (Tx.nd ns i)).map Int.ofNat
theorem Cd.lackTo_succ (cb : Tx.Node → Bool) (ns : List Tx.Node) (k : Nat) : Cd.lackTo cb ns (k + 1) = Cd.lackTo cb ns k ++ (if cb (Tx.nd ns k) = true then [(k : Int)] else []) := by
 unfold Cd.lackTo
 rw [List.range_succ, List.filter_append, List.map_append]
 congr 1
 rw [List.filter_cons]
 split <;> rfl
theorem Cd.lackTo_len (cb : Tx.Node → Bool) (ns : List Tx.Node) (k : Nat) : (Cd.lackTo cb ns k).length ≤ k := by
 unfold Cd.lackTo
 rw [List.length_map]
 exact Nat.le_trans (List.length_filter_le _ _) (by simp)
set_option maxRecDepth 100000 in
set_option maxHeartbeats 16000000 in
theorem lacks_go (kind : Int) (T : TypeId) (g : FuncId) (cb : Tx.Node → Bool) (hk : kind = 1 ∨ kind = 2) (hcv : coderV kind = .iface T (.agg #[])) (hme : ∀ W : World, (method 335 T (.agg #[]) "ostracon/code.cannot").run Tryz.prog W = .ok (g, .agg #[]) W) (heg : ∀ (args : Array Value) (W : World), (callFunc g args).run Tryz.prog W = .ok (.enter g args) W) (hcan : ∀ (n : Tx.Node) (W : World), Calls Tryz.prog g #[.agg #[], .agg (encN n).toArray] W (RetFam (cb n) W))
  (l : Sg.SList) (ns : List Tx.Node) (vl : Value) (w : World) (A : Option Addr) (c : Nat) (hl : RdSL w w.heap.size vl l) (h : RdN w w.heap.size (.slice A ns.length c) ns) (hcb : Tx.checkT l ns = 0 → ∀ i, i < ns.length → cb (Tx.nd ns i) = Cd.lackB kind (Tx.nd ns i)) :
  Calls Tryz.prog 13 #[.int .i64 kind, vl, .agg #[.slice A ns.length c]] w (RetLk (Cd.lacksQ kind l ns) w) := by
 have HL := Lib.hid hl
 have HR := Lib.hid h
 obtain ⟨⟨us, rfl, hsg⟩, -⟩ := hl
 obtain ⟨As, cs, rfl, -⟩ := id hsg
 have hb : ns.length ≤ c ∧ c ≤ 9223372036854775807 := by
  obtain ⟨A', c', hv, h1, h2, -⟩ := h
  cases hv
  exact ⟨h1, h2⟩
 have HCB := Lib.hid hcb
 have HCN := Lib.hid hcan
 have HK := Lib.hid hk
 have HCO : Hid (∀ W, Calls Tryz.prog 35 #[.int .i64 kind] W (fun e w' => e = .returned (.tuple #[.iface T (.agg #[]), .int .i64 0]) ∧ w' = W)) := Lib.hid fun W => by
  have := coderOf_any kind W
  rw [hcv, show coderE kind = 0 from if_pos hk] at this
  exact this
 obtain ⟨Z, hZ⟩ : ∃ Z, Z = w.heap.size := ⟨_, rfl⟩
 have HZ := Lib.hid hZ
 clear hsg h hcb hcan hcv hk
 go_enter Tryz.func13, Tryz.ntmps13
 go_wp2_with fail
 rw [← hZ]
 refine at_worldF ?_
 intro WL hWL
 have hbl : Below Z w WL := by rw [hWL, hZ]; exact ((Below.refl _ _).alloc (Nat.le_refl _) _).alloc (by simp) _
 have hsz : WL.heap.size = Z + 2 := by rw [hWL, hZ]; simp
 have b0 : WL.heap[Z]? = some (.cells #[.int .i64 l.periods, .slice As l.signs.length cs] 24 (0, 0)) := by rw [hWL, hZ]; exact heap_alloc2_old _ _ _
 have b1 : WL.heap[Z + 1]? = some (.cells #[.slice A ns.length c] 27 (0, 0)) := by rw [hWL, hZ]; exact heap_alloc2_new _ _ _
 clear hWL
 refine (HCO.out WL).mono ?_
 rintro e w1 ⟨rfl, hw1⟩
 subst hw1
 have HB := Lib.hid hbl
 have HB0 := Lib.hid b0
 have HB1 := Lib.hid b1
 have OWN : Hid (∀ W : World, Below (Z + 2) w1 W → W.cell? ⟨Z, 0, none⟩ = some (.int .i64 l.periods) ∧ W.cell? ⟨Z, 1, none⟩ = some (.slice As l.signs.length cs) ∧ W.cell? ⟨Z + 1, 0, none⟩ = some (.slice A ns.length c) ∧ Below w.heap.size w W) := Lib.hid fun W hW => by
  have e0 := (hW.block Z (by omega)).trans HB0.out
  have e1 := (hW.block (Z + 1) (by omega)).trans HB1.out
  refine ⟨by simp [World.cell?, e0], by simp [World.cell?, e0], by simp [World.cell?, e1], ?_⟩
  rw [← HZ.out]
  exact HB.out.trans (hW.mono (by omega))
 obtain ⟨x0, x1, x2, hbw⟩ := OWN.out w1 (Below.refl _ _)
 obtain ⟨ev, hev⟩ : ∃ ev, ev = Tx.checkT l ns := ⟨_, rfl⟩
 have HGC : Hid (Calls Tryz.prog 36 #[.agg #[.int .i64 l.periods, .slice As l.signs.length cs], .agg #[.slice A ns.length c]] w1 (RetE ev w1)) := Lib.hid (by rw [hev]; exact gpCheck_any l ns _ w1 A c (HL.out.keep hbw.size hbw) ((HR.out.below hbw).more hbw.size))
 have HEV := Lib.hid hev
 have HQ : Hid (Cd.lacksQ kind l ns = if ev ≠ 0 then ([], ev) else (Cd.lacksV kind ns, 0)) := Lib.hid (by
  have e1 : Cd.lacksE kind l ns = ev := by unfold Cd.lacksE; rw [if_neg (by have := HK.out; omega), hev]
  unfold Cd.lacksQ
  rw [e1])
 clear hbl b0 b1 hZ hbw hev
 go_wp2_with fail
 refine HGC.out.mono ?_
 rintro e w3 ⟨rfl, hb3⟩
 have hs3 : Z + 2 ≤ w3.heap.size := by have := hb3.size; omega
 have HB3 : Hid (Below (Z + 2) w1 w3) := Lib.hid (hb3.mono (by omega))
 obtain ⟨x0, x1, x2, hbw⟩ := OWN.out w3 HB3.out
 have HBW := Lib.hid hbw
 clear hb3 hbw HGC
 by_cases k0 : ev = 0
 case neg =>
  have t0 : (ev == 0) = false := by simp [k0]
  have t0' : (ev != 0) = true := by simp [k0]
  have HQ2 := Lib.hid (HQ.out.trans (if_pos k0))
  clear k0
  go_wp2_with fail
  refine bodyPost_ret (results_tmp2 rfl _ _ _) rfl ?_
  exact RetLk.nil HQ2.out HBW.out
 have HQ2 : Hid (Cd.lacksQ kind l ns = (Cd.lackTo cb ns ns.length, 0)) := Lib.hid (by
  rw [HQ.out, if_neg (by simpa using k0)]
  congr 1
  unfold Cd.lacksV Cd.lackTo
  congr 1
  refine List.filter_congr fun i hi => ?_
  rw [HCB.out (by rw [← HEV.out, k0]) i (List.mem_range.1 hi)])
 have hn200 : ns.length ≤ 200 := by
  have := HEV.out
  rw [k0] at this
  unfold Tx.checkT at this
  by_cases h1 : Sg.checkV l ≠ 0
  ·rw [if_pos h1] at this
   exact absurd this.symm h1
  ·rw [if_neg h1] at this
   by_cases h2 : 200 < ns.length
   ·rw [if_pos h2] at this
    exact absurd this (by decide)
   ·omega
 subst k0
 obtain ⟨i1, hi1, hz1, hs1, hb1⟩ := info_parts info_int
 go_upto_region 8 with fail
 go_wp2_with fail
 go_loopg [11, 31] ns.length (fun g u v wr => ∃ k : Nat, k ≤ ns.length ∧ g = ns.length - k ∧ v = .int .i64 (k : Int) ∧ Below w3.heap.size w3 wr ∧ wr.ownsRow w3.heap.size 3 1 u (Cd.lackTo cb ns k).length ((Cd.lackTo cb ns k).flatMap encInt))
 case atStart => exact ⟨0, Nat.zero_le _, rfl, rfl, Below.refl _ _, World.ownsRow_nil _ _ _ _⟩
 case round =>
  obtain ⟨k, hk, rfl, rfl, hbr, hown⟩ := hrel
  obtain ⟨F, hF⟩ : ∃ F, F = Cd.lackTo cb ns k := ⟨_, rfl⟩
  rw [← hF] at hown
  obtain ⟨Ao, co, rfl⟩ := own_form hown
  have HF := Lib.hid hF
  have HBR := Lib.hid hbr
  have HO := Lib.hid hown
  have hFl : F.length ≤ 200 := by rw [hF]; have := Cd.lackTo_len cb ns k; omega
  have hbz : Below (Z + 2) w1 wr := HB3.out.trans (hbr.mono hs3)
  obtain ⟨y0, y1, y2, hbw⟩ := OWN.out wr hbz
  have HBW2 := Lib.hid hbw
  have hwr : w3.heap.size ≤ wr.heap.size := hbr.size
  clear hF hbr hown hbz
  by_cases hlt : k < ns.length
  ·have hltI : (k : Int) < (ns.length : Int) := by omega
   have hk0 : (0 : Int) ≤ (k : Int) := by omega
   obtain ⟨bT, off, hA, hbT, hcell⟩ := HR.out.eight (by omega)
   subst hA
   have hkk : ∀ q, q.block = bT → wr.cell? q = w.cell? q := fun q hq => World.cell?_of_block (by rw [hq]; exact hbw.block bT hbT)
   obtain ⟨p0, p1, p2, p3, p4, p5, p6, p7⟩ := hcell k hlt
   obtain ⟨n, hn⟩ : ∃ n, n = Tx.nd ns k := ⟨_, rfl⟩
   rw [← hn] at p0 p1 p2 p3 p4 p5 p6 p7
   have q0 := (hkk ⟨bT, off + k * 8, none⟩ rfl).trans p0
   have q1 := (hkk ⟨bT, off + k * 8 + 1, none⟩ rfl).trans p1
   have q2 := (hkk ⟨bT, off + k * 8 + 2, none⟩ rfl).trans p2
   have q3 := (hkk ⟨bT, off + k * 8 + 3, none⟩ rfl).trans p3
   have q4 := (hkk ⟨bT, off + k * 8 + 4, none⟩ rfl).trans p4
   have q5 := (hkk ⟨bT, off + k * 8 + 5, none⟩ rfl).trans p5
   have q6 := (hkk ⟨bT, off + k * 8 + 6, none⟩ rfl).trans p6
   have q7 := (hkk ⟨bT, off + k * 8 + 7, none⟩ rfl).trans p7
   have HNX : Hid (Cd.lackTo cb ns (k + 1) = F ++ (if cb n = true then [(k : Int)] else [])) := Lib.hid (by rw [Cd.lackTo_succ, HF.out, hn])
   clear hkk hcell p0 p1 p2 p3 p4 p5 p6 p7 hn hbw
   go_upto_region 11 with fail
   obtain ⟨W4, hW4⟩ : ∃ X, X = wr.alloc (.cells #[.int .i64 n.kind, .int .i64 n.depth, .int .i64 n.sign, .int .i64 n.turn, .bool n.mirror, .int .i64 n.state, .int .i64 n.lo, .int .i64 n.hi] 59) := ⟨_, rfl⟩
   rw [← hW4]
   have hb4 : Below wr.heap.size wr W4 := by rw [hW4]; exact (Below.refl _ _).alloc (Nat.le_refl _) _
   have hz4 : W4.heap[wr.heap.size]? = some (.cells #[.int .i64 n.kind, .int .i64 n.depth, .int .i64 n.sign, .int .i64 n.turn, .bool n.mirror, .int .i64 n.state, .int .i64 n.lo, .int .i64 n.hi] 59 (0, 0)) := by rw [hW4]; exact heap_alloc_new _ _
   have HB4 := Lib.hid hb4
   obtain ⟨z0, z1, z2, z3, z4, z5, z6, z7⟩ := box8_cells hz4
   have HCL : Hid (Calls Tryz.prog g #[.agg #[], .agg #[.int .i64 n.kind, .int .i64 n.depth, .int .i64 n.sign, .int .i64 n.turn, .bool n.mirror, .int .i64 n.state, .int .i64 n.lo, .int .i64 n.hi]] W4 (RetFam (cb n) W4)) := Lib.hid (HCN.out n W4)
   obtain ⟨cn, hcn⟩ : ∃ cn, cn = cb n := ⟨_, rfl⟩
   rw [← hcn] at HCL HNX
   clear hW4 hb4 hz4 hcn q0 q1 q2 q3 q4 q5 q6 q7
   go_wp2_with fail
   refine HCL.out.mono ?_
   rintro e w5 ⟨rfl, hb5⟩
   have hb5' : Below wr.heap.size wr w5 := HB4.out.trans (hb5.mono HB4.out.size)
   have HB5 := Lib.hid hb5'
   have hs5 : wr.heap.size ≤ w5.heap.size := hb5'.size
   have HO5 := Lib.hid (own_below HO.out hb5')
   clear hb5 hb5' HCL
   cases cn
   ·have HN1 : Hid (Cd.lackTo cb ns (k + 1) = F) := Lib.hid (by rw [HNX.out]; simp)
    go_wp2_with fail
    go_roundg (ns.length - (k + 1))
    case measure => omega
    case rel => exact ⟨k + 1, by omega, rfl, by go_num, HBR.out.trans (HB5.out.mono hwr), by rw [HN1.out]; exact HO5.out⟩
   ·have HN1 : Hid (Cd.lackTo cb ns (k + 1) = F ++ [(k : Int)]) := Lib.hid (by rw [HNX.out]; simp)
    have hal : Below w5.heap.size w5 (w5.alloc (.cells #[.int .i64 (k : Int)] 3)) := (Below.refl _ _).alloc (Nat.le_refl _) _
    have HO6 := Lib.hid (own_below HO5.out hal)
    have HAL := Lib.hid hal
    have HRX : Hid (RdS (w5.alloc (.cells #[.int .i64 (k : Int)] 3)) (w5.alloc (.cells #[.int .i64 (k : Int)] 3)).heap.size 1 encInt (.slice (some ⟨w5.heap.size, 0, none⟩) 1 1) [(k : Int)]) := Lib.hid (rds_block (xs := [(k : Int)]) len_int (heap_alloc_new _ _) rfl (by simp) (Nat.le_refl 1) (by decide))
    have hm1 : F.length + [(k : Int)].length ≤ maxLen := by simp [maxLen]; omega
    have hm2 : (F.length + [(k : Int)].length) * 8 ≤ 140737488355328 := by simp; omega
    have hm3 : w3.heap.size ≤ (w5.alloc (.cells #[.int .i64 (k : Int)] 3)).heap.size := by simp; omega
    have HM1 := Lib.hid hm1
    have HM2 := Lib.hid hm2
    have HM3 := Lib.hid hm3
    clear hal hm1 hm2 hm3
    go_wp2_with (at_builtin; (refine wpList_append_rd (enc := encInt) rfl (.tmp 39) (.tmp 41) _ rfl w3.heap.size 3 i1 _ 1 8 len_int one_int Tryz.underlying32 hi1 hz1 hs1 hb1 rfl (by decide) (.slice Ao F.length co) F.length (F.flatMap encInt) rfl HO6.out _ (.slice (some ⟨w5.heap.size, 0, none⟩) 1 1) [(k : Int)] rfl HRX.out HM1.out HM2.out HM3.out ?_))
    intro v8 w8 hown8 hg8 hat8
    have HB8 : Hid (Below w3.heap.size w3 w8) := Lib.hid (below_own_grown ((HBR.out.trans (HB5.out.mono hwr)).trans (HAL.out.mono (by omega))) hg8 HO6.out (Nat.le_refl _) HM3.out)
    have HO8 : Hid (w8.ownsRow w3.heap.size 3 1 v8 (F ++ [(k : Int)]).length ((F ++ [(k : Int)]).flatMap encInt)) := Lib.hid (by rw [List.length_append, List.flatMap_append]; exact hown8)
    clear hown8 hg8 hat8
    go_wp2_with fail
    go_roundg (ns.length - (k + 1))
    case measure => omega
    case rel => exact ⟨k + 1, by omega, rfl, by go_num, HB8.out, by rw [HN1.out]; exact HO8.out⟩
  ·have hltI : ¬ (k : Int) < (ns.length : Int) := by omega
   have hkx : k = ns.length := by omega
   have HQ3 : Hid (Cd.lacksQ kind l ns = (F, 0)) := Lib.hid (by rw [HQ2.out, HF.out, hkx])
   clear hkx
   go_wp2_with fail
   refine bodyPost_ret (results_tmp2 rfl _ _ _) rfl ?_
   rw [HQ3.out]
   exact ⟨Ao, co, rfl, HBW2.out, HO.out.mono (by have := HZ.out; omega)⟩
theorem lackTo_false (ns : List Tx.Node) (i : Nat) : (fun _ => false : Tx.Node → Bool) (Tx.nd ns i) = Cd.lackB 1 (Tx.nd ns i) := by unfold Cd.lackB; simp
theorem Lacks_any (kind : Int) (l : Sg.SList) (ns : List Tx.Node) (vl : Value) (w : World) (A : Option Addr) (c : Nat) (hl : RdSL w w.heap.size vl l) (h : RdN w w.heap.size (.slice A ns.length c) ns) :
  Calls Tryz.prog 13 #[.int .i64 kind, vl, .agg #[.slice A ns.length c]] w (RetLk (Cd.lacksQ kind l ns) w) := by
 by_cases k1 : kind = 1
 ·subst k1
  exact lacks_go 1 96 138 (fun _ => false) (.inl rfl) rfl (fun _ => by kernel_rfl) (enters_of Tryz.func138 (by kernel_rfl) rfl) lc_cannot_any l ns vl w A c hl h (fun _ i _ => lackTo_false ns i)
 by_cases k2 : kind = 2
 ·subst k2
  refine lacks_go 2 97 177 Cd.cannotB (.inr rfl) rfl (fun _ => by kernel_rfl) (enters_of Tryz.func177 (by kernel_rfl) rfl) tc_cannot_any l ns vl w A c hl h (fun hc i hi => ?_)
  unfold Tx.checkT at hc
  by_cases h1 : Sg.checkV l ≠ 0
  ·rw [if_pos h1] at hc
   exact absurd hc h1
  rw [if_neg h1] at hc
  by_cases h2 : 200 < ns.length
  ·rw [if_pos h2] at hc
   exact absurd hc (by decide)
  rw [if_neg h2] at hc
  by_cases h3 : Sg.firstE (Tx.ownAt l ns) ns.length ≠ 0
  ·rw [if_pos h3] at hc
   exact absurd hc h3
  exact Cd.cannot_eq (Sg.firstE_ne (by simpa using h3) i hi)
 have HCO : Hid (∀ W, Calls Tryz.prog 35 #[.int .i64 kind] W (fun e w' => e = .returned (.tuple #[Value.nilIface, .int .i64 1]) ∧ w' = W)) := Lib.hid fun W => by
  have := coderOf_any kind W
  rw [show coderV kind = Value.nilIface by unfold coderV; rw [if_neg k1, if_neg k2], show coderE kind = 1 from if_neg (by omega)] at this
  exact this
 have HQ : Hid (Cd.lacksQ kind l ns = ([], 1)) := Lib.hid (by
  have e1 : Cd.lacksE kind l ns = 1 := by unfold Cd.lacksE; rw [if_pos ⟨k1, k2⟩]
  unfold Cd.lacksQ
  rw [e1]
  rfl)
 obtain ⟨⟨us, rfl, hsg⟩, -⟩ := hl
 obtain ⟨As, cs, rfl, -⟩ := id hsg
 clear hsg h k1 k2
 go_enter Tryz.func13, Tryz.ntmps13
 go_wp2_with fail
 refine (HCO.out _).mono ?_
 rintro e w1 ⟨rfl, rfl⟩
 go_wp2_with fail
 refine bodyPost_ret (results_tmp2 rfl _ _ _) rfl ?_
 exact RetLk.nil HQ.out (((Below.refl _ _).alloc (Nat.le_refl _) _).alloc (by simp) _)
end Go.Proofs.YtenmkbpdkfhbjaaGreat
namespace Go.Proofs.YtenmkbpdkfhbjaaGreat
open Go Go.RowKit

def encS (q : ByteArray × Int × Int × Bool × (Option Addr × Nat × Nat)) : List Value := [.string q.1, .int .i64 q.2.1, .int .i64 q.2.2.1, .bool q.2.2.2.1, .slice q.2.2.2.2.1 q.2.2.2.2.2.1 q.2.2.2.2.2.2]
theorem len_S (q : ByteArray × Int × Int × Bool × (Option Addr × Nat × Nat)) : (encS q).length = 5 := rfl
theorem grown_setA (w : World) (a : Addr) (u : Value) : w.grownBy (w.setCell a u) (some a.block) := ⟨rfl, rfl, rfl, by simp [World.setCell], fun i _ hi => Below.heap_setCell _ _ _ _ (fun e => hi (by rw [e]))⟩
theorem gset {w : World} {g i : Nat} {cs : Array Value} {t : TypeId} {fr : Nat × Nat} (h : w.heap[g]? = some (.cells cs t fr)) (v : Value) : (w.setCell ⟨g, i, none⟩ v).heap[g]? = some (.cells (cs.setIfInBounds i v) t fr) := Go.Joins.block_setCell h v
theorem one_S (q : ByteArray × Int × Int × Bool × (Option Addr × Nat × Nat)) : ∀ u ∈ encS q, u.oneCell' = true := by intro u hu; simp [encS] at hu; rcases hu with rfl | rfl | rfl | rfl | rfl <;> rfl
theorem rd_one_sign (W : World) (q : ByteArray × Int × Int × Bool × (Option Addr × Nat × Nat)) : RdS (W.alloc (.cells #[.string q.1, .int .i64 q.2.1, .int .i64 q.2.2.1, .bool q.2.2.2.1, .slice q.2.2.2.2.1 q.2.2.2.2.2.1 q.2.2.2.2.2.2] 66)) (W.alloc (.cells #[.string q.1, .int .i64 q.2.1, .int .i64 q.2.2.1, .bool q.2.2.2.1, .slice q.2.2.2.2.1 q.2.2.2.2.2.1 q.2.2.2.2.2.2] 66)).heap.size 5 encS (.slice (some ⟨W.heap.size, 0, none⟩) 1 1) [q] :=
 rds_block (xs := [q]) len_S (heap_alloc_new W _) rfl (by simp) (Nat.le_refl 1) (by decide)
end Go.Proofs.YtenmkbpdkfhbjaaGreat
namespace Go.Proofs.YtenmkbpdkfhbjaaGreat
open Go Go.RowKit

def Sg.Small (l : Sg.SList) : Prop := l.signs.length ≤ 1000 ∧ ∀ s ∈ l.signs, s.values.length ≤ 1000
def RetList (l : Sg.SList) (w : World) (e : Ending) (w' : World) : Prop := ∃ v, e = .returned v ∧ RdSL w' w'.heap.size v l ∧ Below w.heap.size w w'
set_option maxRecDepth 100000 in
set_option maxHeartbeats 8000000 in
theorem r1Copy_any (v : Value) (l : Sg.SList) (w : World) (hr : RdSL w w.heap.size v l) (hsm : Sg.Small l) : Calls Tryz.prog 14 #[v] w (RetList l w) := by
 obtain ⟨⟨u, rfl, hg⟩, hf⟩ := hr
 obtain ⟨hsm1, hsm2⟩ := hsm
 obtain ⟨A0, c0, rfl⟩ := hg.form
 have HG0 := Lib.hid hg
 have HFS := Lib.hid hf
 have HSM := Lib.hid hsm2
 obtain ⟨i0, hi0, hz0, hs0', hb0'⟩ := info_parts info_Value
 obtain ⟨i1, hi1, hz1, hs1', hb1'⟩ := info_parts info_Sign
 obtain ⟨W1, hW1⟩ : ∃ W1, W1 = ((w.alloc (.cells #[.int .i64 l.periods, .slice A0 l.signs.length c0] 24)).alloc (.cells #[.int .i64 0, .slice none 0 0] 24)).alloc (.cells #[.int .i64 l.periods, .slice none 0 0] 24) := ⟨_, rfl⟩
 have hb1 : Below w.heap.size w W1 := by rw [hW1]; exact (((Below.refl _ _).alloc (Nat.le_refl _) _).alloc (by simp) _).alloc (by simp; omega) _
 have hX : W1.heap[w.heap.size]? = some (.cells #[.int .i64 l.periods, .slice A0 l.signs.length c0] 24 (0, 0)) := by rw [hW1, Below.heap_alloc _ _ _ (by simp; omega)]; exact start_fst w _ _
 have hY : W1.heap[w.heap.size + 1]? = some (.cells #[.int .i64 0, .slice none 0 0] 24 (0, 0)) := by rw [hW1, Below.heap_alloc _ _ _ (by simp)]; exact start_res' w _ _
 have hZ : W1.heap[w.heap.size + 2]? = some (.cells #[.int .i64 l.periods, .slice none 0 0] 24 (0, 0)) := by
  rw [hW1]
  have := heap_alloc_new ((w.alloc (.cells #[.int .i64 l.periods, .slice A0 l.signs.length c0] 24)).alloc (.cells #[.int .i64 0, .slice none 0 0] 24)) (.cells #[.int .i64 l.periods, .slice none 0 0] 24)
  simpa using this
 have hs1 : w.heap.size + 2 < W1.heap.size := (Array.getElem?_eq_some_iff.1 hZ).1
 have HB1 := Lib.hid hb1
 have HW1 := Lib.hid hW1
 have HX1 := Lib.hid hX
 have HY1 := Lib.hid hY
 have HZ1 := Lib.hid hZ
 clear hg hf hsm2 hW1 hb1 hX hY hZ
 go_enter Tryz.func14, Tryz.ntmps14
 go_upto_region 2 with fail
 rw [← HW1.out]
 go_wp2_with fail
 go_loopg [4] l.signs.length (fun g i wr => ∃ (k : Nat) (vv : Value), k ≤ l.signs.length ∧ g = l.signs.length - k ∧ i = .int .i64 k ∧ Below w.heap.size w wr ∧ wr.heap[w.heap.size]? = some (.cells #[.int .i64 l.periods, .slice A0 l.signs.length c0] 24 (0, 0)) ∧ wr.heap[w.heap.size + 1]? = some (.cells #[.int .i64 0, .slice none 0 0] 24 (0, 0)) ∧ wr.heap[w.heap.size + 2]? = some (.cells #[.int .i64 l.periods, vv] 24 (0, 0)) ∧ OwnG KSign 66 wr (w.heap.size + 3) vv (l.signs.take k))
 case atStart => exact ⟨0, .slice none 0 0, Nat.zero_le _, rfl, rfl, HB1.out, HX1.out, HY1.out, HZ1.out, OwnG.nil _ _ _⟩
 case round =>
  obtain ⟨k, vv, hk, rfl, rfl, hbel, hx, hy, hz, hown⟩ := hrel
  obtain ⟨Av, cv, rfl⟩ := hown.form
  have hlt3 : w.heap.size + 2 < wr.heap.size := (Array.getElem?_eq_some_iff.1 hz).1
  have HBW := Lib.hid hbel
  have HX := Lib.hid hx
  have HY := Lib.hid hy
  have HZ := Lib.hid hz
  have HOK := Lib.hid hown
  have x1 : wr.cell? ⟨w.heap.size, 1, none⟩ = some (.slice A0 l.signs.length c0) := by simp [World.cell?, hx]
  have htk : (l.signs.take k).length = k := by rw [List.length_take]; omega
  clear hbel hx hy hz hown
  by_cases hlt : k < l.signs.length
  ·obtain ⟨b, off, rfl, hb, hcell⟩ := HG0.out.five (by omega)
   obtain ⟨s, hs⟩ : ∃ s, l.signs[k]? = some s := ⟨_, List.getElem?_eq_getElem hlt⟩
   obtain ⟨uv, hrd, g0, g1, g2, g3, g4⟩ := hcell k s hs
   have f0 := (HBW.out.cell (p := ⟨b, off + k * 5, none⟩) hb).trans g0
   have f1 := (HBW.out.cell (p := ⟨b, off + k * 5 + 1, none⟩) hb).trans g1
   have f2 := (HBW.out.cell (p := ⟨b, off + k * 5 + 2, none⟩) hb).trans g2
   have f3 := (HBW.out.cell (p := ⟨b, off + k * 5 + 3, none⟩) hb).trans g3
   have f4 := (HBW.out.cell (p := ⟨b, off + k * 5 + 4, none⟩) hb).trans g4
   obtain ⟨A2, c2, rfl, hvc, hvm⟩ := rds_form hrd.rds
   have hvl := HSM.out s (List.mem_of_getElem? hs)
   obtain ⟨wS, hwS⟩ : ∃ wS, wS = wr.alloc (.cells #[.string s.code, .int .i64 s.wide, .int .i64 s.high, .bool s.even, .slice A2 s.values.length c2] 66) := ⟨_, rfl⟩
   have hbS : Below wr.heap.size wr wS := by rw [hwS]; exact (Below.refl _ _).alloc (Nat.le_refl _) _
   have hsb : wS.heap[wr.heap.size]? = some (.cells #[.string s.code, .int .i64 s.wide, .int .i64 s.high, .bool s.even, .slice A2 s.values.length c2] 66 (0, 0)) := by rw [hwS]; exact heap_alloc_new _ _
   have hszS : wr.heap.size < wS.heap.size := by rw [hwS]; simp
   have HBWS := Lib.hid (HBW.out.trans (hbS.mono (by omega)))
   have HBS := Lib.hid hbS
   have HSB := Lib.hid hsb
   have s4 : wS.cell? ⟨wr.heap.size, 4, none⟩ = some (.slice A2 s.values.length c2) := by simp [World.cell?, hsb]
   have HRV : Hid (RdS (wS.alloc (.cells #[] 103)) w.heap.size 4 encValue (.slice A2 s.values.length c2) s.values) := Lib.hid (hrd.rds.below (HBWS.out.alloc (by omega) _))
   have HOE : Hid ((wS.alloc (.cells #[] 103)).ownsRow wS.heap.size 103 4 (.slice (some ⟨wS.heap.size, 0, none⟩) 0 0) 0 []) := Lib.hid (own_empty (Nat.le_refl _))
   have HS := Lib.hid hs
   have HWS := Lib.hid hwS
   have hkI : (0 : Int) ≤ (k : Int) := by omega
   have hkJ : (k : Int) < (l.signs.length : Int) := by omega
   have hk1 : 0 + s.values.length ≤ maxLen := by simp only [maxLen]; omega
   have hk2 : (0 + s.values.length) * 40 ≤ 140737488355328 := by omega
   have hbase : wS.heap.size ≤ (wS.alloc (.cells #[] 103)).heap.size := by simp
   clear hcell hs g0 g1 g2 g3 g4 hrd hwS hbS hsb
   go_upto_region 6 with fail
   rw [← HWS.out]
   clear f0 f1 f2 f3 f4 x1
   go_wp2_with (at_builtin; go_must (refine wpList_append_rd (enc := encValue) rfl (.tmp 21) (.tmp 23) _ rfl wS.heap.size 103 i0 _ 4 40 len_value one_value Tryz.underlying64 hi0 hz0 hs0' hb0' rfl (by decide) (.slice (some ⟨wS.heap.size, 0, none⟩) 0 0) 0 [] rfl HOE.out w.heap.size (.slice A2 s.values.length c2) s.values rfl HRV.out hk1 hk2 hbase ?_))
   intro v8 w8 hown8 hg8 hat8
   have hown8' : w8.ownsRow wS.heap.size 103 4 v8 s.values.length (s.values.flatMap encValue) := by simpa using hown8
   obtain ⟨A8, c8, rfl⟩ := own_form hown8'
   have hsz8 := hg8.size
   have hsz8' : wS.heap.size < w8.heap.size := by simp at hsz8; omega
   have hbl8 : ∀ j, j < wS.heap.size → w8.heap[j]? = wS.heap[j]? := fun j hj => (hg8.block _ (by simp; omega) (fun e => by simp [Value.ownBlock] at e; omega)).trans (((Below.refl wS.heap.size wS).alloc (Nat.le_refl _) _).block j hj)
   have hb8 : Below wS.heap.size wS w8 := ((Below.refl wS.heap.size wS).alloc (Nat.le_refl _) (.cells #[] 103)).grown hg8 (by simp) (fun q hq => by simp [Value.ownBlock] at hq; omega)
   have hsb8 := (hbl8 _ (by omega)).trans HSB.out
   have HRX := Lib.hid (rdx_of_own len_value hown8')
   have s4 : w8.cell? ⟨wr.heap.size, 4, none⟩ = some (.slice A2 s.values.length c2) := by simp [World.cell?, hsb8]
   have y4 : w8.frozen? ⟨wr.heap.size, 4, none⟩ = false := by simp [World.frozen?, hsb8]
   obtain ⟨w9, hw9⟩ : ∃ w9, w9 = w8.setCell ⟨wr.heap.size, 4, none⟩ (.slice A8 s.values.length c8) := ⟨_, rfl⟩
   have hsb9 : w9.heap[wr.heap.size]? = some (.cells #[.string s.code, .int .i64 s.wide, .int .i64 s.high, .bool s.even, .slice A8 s.values.length c8] 66 (0, 0)) := by rw [hw9]; exact gset hsb8 _
   have hb9 : Below wr.heap.size wr w9 := by rw [hw9]; exact (HBS.out.trans (hb8.mono (by omega))).setCell (Nat.le_refl _) _
   have hsz9 : w8.heap.size ≤ w9.heap.size := by rw [hw9]; simp [World.setCell]
   have HSZ9 : Hid (w9.heap.size = w8.heap.size) := Lib.hid (by rw [hw9]; simp [World.setCell])
   have HK9 : Hid (∀ j, wS.heap.size ≤ j → w9.heap[j]? = w8.heap[j]?) := Lib.hid fun j hj => by rw [hw9]; exact Below.heap_setCell _ ⟨wr.heap.size, 4, none⟩ _ _ (by show j ≠ wr.heap.size; omega)
   have HW9 := Lib.hid hw9
   have HB9 := Lib.hid hb9
   have HX9 := Lib.hid ((hb9.block w.heap.size (by omega)).trans HX.out)
   have HY9 := Lib.hid ((hb9.block (w.heap.size + 1) (by omega)).trans HY.out)
   have hz9 := (hb9.block (w.heap.size + 2) (by omega)).trans HZ.out
   have HZ9 := Lib.hid hz9
   clear hown8 hown8' hg8 hat8 hbl8 hb8 hsb8 hw9 hb9
   go_upto_region 7 with fail
   rw [← HW9.out]
   clear s4 y4
   have v0 : w9.cell? ⟨wr.heap.size, 0, none⟩ = some (.string s.code) := by simp [World.cell?, hsb9]
   have v1 : w9.cell? ⟨wr.heap.size, 1, none⟩ = some (.int .i64 s.wide) := by simp [World.cell?, hsb9]
   have v2 : w9.cell? ⟨wr.heap.size, 2, none⟩ = some (.int .i64 s.high) := by simp [World.cell?, hsb9]
   have v3 : w9.cell? ⟨wr.heap.size, 3, none⟩ = some (.bool s.even) := by simp [World.cell?, hsb9]
   have v4 : w9.cell? ⟨wr.heap.size, 4, none⟩ = some (.slice A8 s.values.length c8) := by simp [World.cell?, hsb9]
   have c1 : w9.cell? ⟨w.heap.size + 2, 1, none⟩ = some (.slice Av k cv) := by
    have := hz9
    rw [htk] at this
    simp [World.cell?, this]
   have HO9 : Hid (OwnG KSign 66 (w9.alloc (.cells #[.string s.code, .int .i64 s.wide, .int .i64 s.high, .bool s.even, .slice A8 s.values.length c8] 66)) (w.heap.size + 3) (.slice Av k cv) (l.signs.take k)) := Lib.hid (by
    have := HOK.out.kept (HB9.out.trans ((Below.refl _ _).alloc (by omega) (.cells #[.string s.code, .int .i64 s.wide, .int .i64 s.high, .bool s.even, .slice A8 s.values.length c8] 66)))
    rwa [htk] at this)
   clear hsb9 hz9
   obtain ⟨cells, hown3, hgr3⟩ := HO9.out
   rw [htk] at hown3
   have HGR := Lib.hid hgr3
   have HOS := Lib.hid hown3
   have HRD := Lib.hid (rd_one_sign w9 (s.code, s.wide, s.high, s.even, (A8, s.values.length, c8)))
   have hk1 : k + 1 ≤ maxLen := by simp only [maxLen]; omega
   have hk2 : (k + 1) * 64 ≤ 140737488355328 := by omega
   have hbase : w.heap.size + 3 ≤ (w9.alloc (.cells #[.string s.code, .int .i64 s.wide, .int .i64 s.high, .bool s.even, .slice A8 s.values.length c8] 66)).heap.size := by simp; omega
   clear hgr3 hown3
   go_wp2_with (at_builtin; go_must (refine wpList_append_rd (enc := encS) rfl (.tmp 27) (.tmp 29) _ rfl (w.heap.size + 3) 66 i1 _ 5 64 len_S one_S Tryz.underlying22 hi1 hz1 hs1' hb1' rfl (by decide) (.slice Av k cv) k cells rfl HOS.out _ (.slice (some ⟨w9.heap.size, 0, none⟩) 1 1) [(s.code, s.wide, s.high, s.even, (A8, s.values.length, c8))] rfl HRD.out hk1 hk2 hbase ?_))
   intro v5 w5 hown5 hg5 hat5
   obtain ⟨A5, c5, hv5⟩ := own_form hown5
   have hv5' : v5 = .slice A5 (k + 1) c5 := hv5
   clear hv5
   subst hv5'
   have hsz5 := hg5.size
   have hbl5 : ∀ j, j < w.heap.size + 3 → w5.heap[j]? = w9.heap[j]? := fun j hj => (hg5.block _ (by simp; omega) (fun e => by have := (HOS.out.lt _ e.symm).1; omega)).trans (((Below.refl w9.heap.size w9).alloc (Nat.le_refl _) _).block j (by omega))
   have hx5 := (hbl5 _ (by omega)).trans HX9.out
   have hy5 := (hbl5 _ (by omega)).trans HY9.out
   have hz5 := (hbl5 _ (by omega)).trans HZ9.out
   have hb5 : Below w.heap.size w w5 := ((HBW.out.trans (HB9.out.mono (by omega))).alloc (by omega) _).grown hg5 (by simp; omega) (fun q hq => by have := (HOS.out.lt q hq).1; omega)
   have HON : Hid (OwnG KSign 66 w5 (w.heap.size + 3) (.slice A5 (k + 1) c5) (l.signs.take (k + 1))) := Lib.hid (by
    rw [List.take_add_one, HS.out]
    refine OwnG.snoc HGR.out (cs := encS (s.code, s.wide, s.high, s.even, (A8, s.values.length, c8))) ⟨.slice A8 s.values.length c8, rfl, ?_⟩ (by rw [htk]; exact hown5) hg5 ?_
    ·refine HRX.out.keep fun j hj => ⟨⟨by simp; omega, fun e => ?_, by omega⟩, ?_⟩
     ·have := (HOK.out.lt j (by rw [htk]; exact e)).2
      omega
     ·exact (((Below.refl w9.heap.size w9).alloc (Nat.le_refl _) _).block j (by omega)).trans (HK9.out j (by omega))
    ·rcases hat5 with h | h
     ·exact .inl h
     ·exact .inr ⟨_, h, by simp⟩)
   have c1 : w5.cell? ⟨w.heap.size + 2, 1, none⟩ = some (.slice Av k cv) := by
    have := hz5
    rw [htk] at this
    simp [World.cell?, this]
   have z1 : w5.frozen? ⟨w.heap.size + 2, 1, none⟩ = false := by simp [World.frozen?, hz5]
   obtain ⟨w6, hw6⟩ : ∃ w6, w6 = w5.setCell ⟨w.heap.size + 2, 1, none⟩ (.slice A5 (k + 1) c5) := ⟨_, rfl⟩
   have HZ6 : Hid (w6.heap[w.heap.size + 2]? = some (.cells #[.int .i64 l.periods, .slice A5 (k + 1) c5] 24 (0, 0))) := Lib.hid (by rw [hw6]; exact gset hz5 _)
   have HX6 : Hid (w6.heap[w.heap.size]? = some (.cells #[.int .i64 l.periods, .slice (some ⟨b, off, none⟩) l.signs.length c0] 24 (0, 0))) := Lib.hid (by rw [hw6, Below.heap_setCell _ ⟨w.heap.size + 2, 1, none⟩ _ _ (by show w.heap.size ≠ w.heap.size + 2; omega)]; exact hx5)
   have HY6 : Hid (w6.heap[w.heap.size + 1]? = some (.cells #[.int .i64 0, .slice none 0 0] 24 (0, 0))) := Lib.hid (by rw [hw6, Below.heap_setCell _ ⟨w.heap.size + 2, 1, none⟩ _ _ (by show w.heap.size + 1 ≠ w.heap.size + 2; omega)]; exact hy5)
   have HB6 : Hid (Below w.heap.size w w6) := Lib.hid (by rw [hw6]; exact hb5.setCell (by show w.heap.size ≤ w.heap.size + 2; omega) _)
   have HO6 : Hid (OwnG KSign 66 w6 (w.heap.size + 3) (.slice A5 (k + 1) c5) (l.signs.take (k + 1))) := Lib.hid (by rw [hw6]; exact HON.out.aside (grown_setA _ _ _) (by intro q hq; cases hq; show w.heap.size + 2 < _; omega))
   have HW6 := Lib.hid hw6
   clear hown5 hg5 hat5 hbl5 hx5 hy5 hz5 hb5 hw6 v0 v1 v2 v3 v4 hsz5
   go_upto_region 4 with fail
   rw [← HW6.out]
   clear c1 z1
   go_wp2_with fail
   go_roundg (l.signs.length - (k + 1))
   case measure => omega
   case rel => exact ⟨k + 1, .slice A5 (k + 1) c5, by omega, rfl, by go_num, HB6.out, HX6.out, HY6.out, HZ6.out, HO6.out⟩
  ·have hkl : k = l.signs.length := by omega
   have HRG : Hid (RdG KSign wr (fun b => b < wr.heap.size ∧ w.heap.size + 3 ≤ b) (.slice Av (l.signs.take k).length cv) l.signs) := Lib.hid (by
    have := HOK.out.rd
    rwa [show l.signs.take k = l.signs by rw [hkl]; exact List.take_length] at this ⊢)
   have hz := HZ.out
   have hy := HY.out
   have m0 : wr.cell? ⟨w.heap.size + 2, 0, none⟩ = some (.int .i64 l.periods) := by simp [World.cell?, hz]
   have m1 : wr.cell? ⟨w.heap.size + 2, 1, none⟩ = some (.slice Av (l.signs.take k).length cv) := by simp [World.cell?, hz]
   have n0 : wr.cell? ⟨w.heap.size + 1, 0, none⟩ = some (.int .i64 0) := by simp [World.cell?, hy]
   have n1 : wr.cell? ⟨w.heap.size + 1, 1, none⟩ = some (.slice none 0 0) := by simp [World.cell?, hy]
   have y0 : wr.frozen? ⟨w.heap.size + 1, 0, none⟩ = false := by simp [World.frozen?, hy]
   have y1 : wr.frozen? ⟨w.heap.size + 1, 1, none⟩ = false := by simp [World.frozen?, hy]
   clear hz hy hkl
   generalize (l.signs.take k).length = nk at m1 HRG htk
   clear htk
   go_wp2_with fail
   refine bodyPost_ret (v := .agg #[.int .i64 l.periods, .slice Av nk cv]) (by simp [results, Tryz.results14, go_sem, n0, n1]) rfl ?_
   refine ⟨_, rfl, ⟨⟨_, rfl, HRG.out.keep fun j hj => ⟨by simp [World.setCell]; omega, ?_⟩⟩, HFS.out⟩, (HBW.out.setCell (by show w.heap.size ≤ w.heap.size + 1; omega) _).setCell (by show w.heap.size ≤ w.heap.size + 1; omega) _⟩
   rw [Below.heap_setCell _ ⟨w.heap.size + 1, 1, none⟩ _ _ (by show j ≠ w.heap.size + 1; omega), Below.heap_setCell _ ⟨w.heap.size + 1, 0, none⟩ _ _ (by show j ≠ w.heap.size + 1; omega)]
end Go.Proofs.YtenmkbpdkfhbjaaGreat
