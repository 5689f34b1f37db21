/- What the laws of the codes begin with: far, Big, ostraconref02.Copy.; ostraconref03.Lacks.; ostraconlaw01.SameInts. -/
import Derived.Test.YtenmkbpdkfhbjaaGreatRaBuild
import Derived.Test.YtenmkbpdkfhbjaaGreatRaCdLocal
import Derived.Test.YtenmkbpdkfhbjaaGreatRaT2Kids
import Derived.Test.YtenmkbpdkfhbjaaGreatRaCWrite
import Derived.Test.YtenmkbpdkfhbjaaGreatRaT2Check
import Derived.Test.YtenmkbpdkfhbjaaGreatRaCLacks
import Derived.Test.YtenmkbpdkfhbjaaGreatRaSgCheck
import Derived.Test.YtenmkbpdkfhbjaaGreatRaIdle
namespace Go.Proofs.YtenmkbpdkfhbjaaGreat
open Go Go.RowKit

theorem box3_cells {W : World} {Z : Nat} {T : TypeId} {c0 c1 c2 : Value} (h : W.heap[Z]? = some (.cells #[c0, c1, c2] T (0, 0))) : W.cell? ⟨Z, 0, none⟩ = some c0 ∧ W.cell? ⟨Z, 1, none⟩ = some c1 ∧ W.cell? ⟨Z, 2, none⟩ = some c2 := by
  simp [World.cell?, h]
def Cd.bigB (l : Sg.SList) (ns : List Tx.Node) : Bool := Sg.largeV l || decide (210 < ns.length)
set_option maxRecDepth 100000 in
set_option maxHeartbeats 4000000 in
theorem law2Big_any (p : Int) (us : Value) (A : Option Addr) (c : Nat) (l : Sg.SList) (ns : List Tx.Node) (w : World) (hr : RdSL w w.heap.size (.agg #[.int .i64 p, us]) l) :
    Calls Tryz.prog 11 #[.agg #[.int .i64 p, us, .slice A ns.length c]] w (RetBB (Cd.bigB l ns) w) := by
  have HL := Lib.hid hr
  obtain ⟨⟨u, hu, hg⟩, hf⟩ := hr
  injection hu with hu
  injection hu with hu
  injection hu with hp hu
  injection hu with hu _
  subst hu
  obtain ⟨A0, c0, rfl⟩ := hg.form
  obtain ⟨Z, hZ⟩ : ∃ Z, Z = w.heap.size := ⟨_, rfl⟩
  have HZ := Lib.hid hZ
  obtain ⟨W1, hW1⟩ : ∃ W1, W1 = w.alloc (.cells #[.int .i64 p, .slice A0 l.signs.length c0, .slice A ns.length c] 29) := ⟨_, rfl⟩
  have hbl : Below w.heap.size w W1 := by rw [hW1]; exact (Below.refl _ _).alloc (Nat.le_refl _) _
  have b1 : W1.heap[Z]? = some (.cells #[.int .i64 p, .slice A0 l.signs.length c0, .slice A ns.length c] 29 (0, 0)) := by rw [hW1, hZ]; exact heap_alloc_new _ _
  have hz1 : Z < W1.heap.size := lt_of_some b1
  obtain ⟨bg, hbg⟩ : ∃ bg, bg = Sg.largeV l := ⟨_, rfl⟩
  have HC : Hid (Calls Tryz.prog 34 #[.agg #[.int .i64 p, .slice A0 l.signs.length c0]] W1 (RetBB bg W1)) := Lib.hid (hbg ▸ l1Large_any _ l W1 (HL.out.keep hbl.size hbl))
  have HV : Hid (Cd.bigB l ns = (bg || decide (210 < ns.length))) := Lib.hid (by rw [hbg]; rfl)
  have HBL := Lib.hid hbl
  have HB1 := Lib.hid b1
  have HW1 := Lib.hid hW1
  obtain ⟨x0, x1, x2⟩ := box3_cells b1
  clear hZ hW1 hbl b1 hbg hg hf hp
  go_enter Tryz.func11, Tryz.ntmps11
  go_upto_region 1 with fail
  rw [← HZ.out, ← HW1.out]
  go_wp2_with fail
  refine HC.out.mono ?_
  rintro e w2 ⟨rfl, hb2⟩
  have HB2 := Lib.hid (HBL.out.trans (hb2.mono HBL.out.size))
  obtain ⟨x0, x1, x2⟩ := box3_cells ((hb2.block Z hz1).trans HB1.out)
  clear hb2
  cases bg
  · by_cases ht : 210 < ns.length
    · have d1 : decide ((210 : Int) < (ns.length : Int)) = true := decide_eq_true (by omega)
      have HVV : Hid (Cd.bigB l ns = true) := Lib.hid (by rw [HV.out, decide_eq_true ht]; rfl)
      clear ht
      go_wp2_with fail
      go_ret
      rw [HVV.out]
      exact ⟨rfl, HB2.out⟩
    · have d1 : decide ((210 : Int) < (ns.length : Int)) = false := decide_eq_false (by omega)
      have HVV : Hid (Cd.bigB l ns = false) := Lib.hid (by rw [HV.out, decide_eq_false ht]; rfl)
      clear ht
      go_wp2_with fail
      go_ret
      rw [HVV.out]
      exact ⟨rfl, HB2.out⟩
  · have HVV : Hid (Cd.bigB l ns = true) := Lib.hid (by rw [HV.out]; rfl)
    go_wp2_with fail
    go_ret
    rw [HVV.out]
    exact ⟨rfl, HB2.out⟩
/-- a text in new memory -/
def RetTx (ns : List Tx.Node) (w : World) (e : Ending) (w' : World) : Prop := ∃ A c, e = .returned (.agg #[.slice A ns.length c]) ∧ Below w.heap.size w w' ∧ RdN w' w'.heap.size (.slice A ns.length c) ns
set_option maxRecDepth 100000 in
set_option maxHeartbeats 4000000 in
theorem r2Copy_any (A : Option Addr) (c : Nat) (ns : List Tx.Node) (w : World) (h : RdN w w.heap.size (.slice A ns.length c) ns) (hn : ns.length ≤ 1000000) :
    Calls Tryz.prog 15 #[.agg #[.slice A ns.length c]] w (RetTx ns w) := by
  have HR := Lib.hid h
  obtain ⟨i0, hi0, hz0, hs0, hb0⟩ := info_parts info_Node
  clear h
  go_enter Tryz.func15, Tryz.ntmps15
  go_wp2_with (at_builtin; (refine wpList_append_rd (enc := encN) rfl (.tmp 3) (.tmp 5) _ rfl (w.heap.size + 2) 59 i0 _ 8 64 len_node one_node Tryz.underlying25 hi0 hz0 hs0 hb0 rfl (by decide) (.slice (some ⟨w.heap.size + 2, 0, none⟩) 0 0) 0 [] rfl ?ho w.heap.size (.slice A ns.length c) ns rfl ?hr ?h63 ?hb ?hB ?_))
  case ho => have := own_empty (w := (w.alloc (.cells #[.slice A ns.length c] 27)).alloc (.cells #[.slice none 0 0] 27)) (e := 59) (size := 8) (base := w.heap.size + 2) (by simp); simpa using this
  case hr => exact HR.out.below ((((Below.refl _ _).alloc (Nat.le_refl _) _).alloc (by simp) _).alloc (by simp; omega) _)
  case h63 => simp only [maxLen]; omega
  case hb => omega
  case hB => simp
  intro v' w' hown0 hg hat
  have hown : w'.ownsRow (w.heap.size + 2) 59 8 v' ns.length (ns.flatMap encN) := by simpa using hown0
  clear hown0 hat
  obtain ⟨A3, c3, rfl⟩ := own_form hown
  have k1 : w'.heap[w.heap.size + 1]? = some (.cells #[.slice none 0 0] 27 (0, 0)) := by
    rw [hg.block _ (by simp) (by simp [Value.ownBlock])]
    rw [Below.heap_alloc _ _ _ (by simp)]
    exact start_res w _
  have HB : Hid (Below w.heap.size w w') := Lib.hid (((((Below.refl _ _).alloc (Nat.le_refl _) _).alloc (by simp) _).alloc (by simp; omega) _).grown hg (by simp; omega) (fun k hk => by simp [Value.ownBlock] at hk; omega))
  have q0 : w'.cell? ⟨w.heap.size + 1, 0, none⟩ = some (.slice none 0 0) := by simp [World.cell?, k1]
  have z0 : w'.frozen? ⟨w.heap.size + 1, 0, none⟩ = false := by simp [World.frozen?, k1]
  have HO := Lib.hid hown
  clear hown hg k1
  go_wp2_with fail
  refine bodyPost_ret (v := .agg #[.slice A3 ns.length c3]) ?_ rfl ⟨_, _, rfl, ?_, ?_⟩
  · simp [results, Tryz.results15, go_sem, q0]
  · exact HB.out.setCell (by simp) _
  · exact rds_of_own len_node (ownsRow_setCell_below HO.out (by simp; try omega) _)
end Go.Proofs.YtenmkbpdkfhbjaaGreat
namespace Go.Proofs.YtenmkbpdkfhbjaaGreat
open Go Go.RowKit

theorem r3known_any (kind : Int) (w : World) : Calls Tryz.prog 37 #[.int .i64 kind] w (fun e w' => e = .returned (.bool (decide (kind = 1 ∨ kind = 2))) ∧ w' = w) := by
  obtain ⟨z1, hz1⟩ : ∃ z, (kind == 1) = z := ⟨_, rfl⟩
  obtain ⟨z2, hz2⟩ : ∃ z, (kind == 2) = z := ⟨_, rfl⟩
  have HV : Hid (decide (kind = 1 ∨ kind = 2) = (z1 || z2)) := Lib.hid (by rw [← hz1, ← hz2, Bool.decide_or]; rfl)
  cases z1 <;> cases z2 <;> (go_enter Tryz.func37, Tryz.ntmps37; go_wp2_with fail; go_ret; exact ⟨by rw [HV.out]; rfl, rfl⟩)
/-- a list of places, of the call's own -/
def RetLs (ls : List Int) (w : World) (e : Ending) (w' : World) : Prop := ∃ A c, e = .returned (.slice A ls.length c) ∧ Below w.heap.size w w' ∧ w'.ownsRow w.heap.size 3 1 (.slice A ls.length c) ls.length (ls.flatMap encInt)
set_option maxRecDepth 100000 in
set_option maxHeartbeats 16000000 in
theorem r3lacks_any (kind : Int) (ns : List Tx.Node) (w : World) (A : Option Addr) (c : Nat) (h : RdN w w.heap.size (.slice A ns.length c) ns) (hn : ns.length ≤ 1000) :
    Calls Tryz.prog 38 #[.int .i64 kind, .agg #[.slice A ns.length c]] w (RetLs (Cd.lacksV kind ns) w) := by
  have HR := Lib.hid h
  have hcap : ns.length ≤ c ∧ c ≤ 9223372036854775807 := by
    obtain ⟨_, _, hv, h1, h2, -⟩ := h
    cases hv
    exact ⟨h1, h2⟩
  obtain ⟨cb, hcb⟩ : ∃ cb, cb = Cd.lackB kind := ⟨_, rfl⟩
  have HCB := Lib.hid hcb
  have HQ : Hid (Cd.lacksV kind ns = Cd.lackTo cb ns ns.length) := Lib.hid (by rw [hcb]; rfl)
  obtain ⟨Z, hZ⟩ : ∃ Z, Z = w.heap.size := ⟨_, rfl⟩
  have HZ := Lib.hid hZ
  obtain ⟨i1, hi1, hz1, hs1, hb1⟩ := info_parts info_int
  have hnI : (ns.length : Int) ≤ 1000 := by omega
  obtain ⟨G, hG⟩ : ∃ G, G = w.alloc (.cells #[.slice A ns.length c] 27) := ⟨_, rfl⟩
  have hbl : Below Z w G := by rw [hG, hZ]; exact (Below.refl _ _).alloc (Nat.le_refl _) _
  have b1 : G.heap[Z]? = some (.cells #[.slice A ns.length c] 27 (0, 0)) := by rw [hG, hZ]; exact heap_alloc_new _ _
  have hsz : G.heap.size = Z + 1 := by rw [hG, hZ]; simp
  have HB1 := Lib.hid b1
  have HBL := Lib.hid hbl
  have HSZ := Lib.hid hsz
  have x0 := bx_cell b1
  have HG := Lib.hid hG
  have HRES : Hid (∀ A c W', Below Z w W' → W'.ownsRow Z 3 1 (.slice A (Cd.lackTo cb ns ns.length).length c) (Cd.lackTo cb ns ns.length).length ((Cd.lackTo cb ns ns.length).flatMap encInt) → RetLs (Cd.lacksV kind ns) w (.returned (.slice A (Cd.lackTo cb ns ns.length).length c)) W') := Lib.hid fun A c W' q1 q2 => by
    rw [hZ] at q1 q2
    rw [HQ.out]
    exact ⟨A, c, rfl, q1, q2⟩
  clear h hcb hZ hG hbl b1 hsz
  go_enter Tryz.func38, Tryz.ntmps38
  go_wp2_with fail
  rw [← HZ.out, ← HG.out]
  go_loopg [5, 6] ns.length (fun g u v wr => ∃ k : Nat, k ≤ ns.length ∧ g = ns.length - k ∧ v = .int .i64 (k : Int) ∧ Below (Z + 1) G wr ∧ wr.ownsRow Z 3 1 u (Cd.lackTo cb ns k).length ((Cd.lackTo cb ns k).flatMap encInt))
  case atStart => exact ⟨0, Nat.zero_le _, rfl, rfl, Below.refl _ _, World.ownsRow_nil _ _ _ _⟩
  case round =>
    obtain ⟨k, hk, rfl, rfl, hbr, hown⟩ := hrel
    obtain ⟨F, hF⟩ : ∃ F, F = Cd.lackTo cb ns k := ⟨_, rfl⟩
    rw [← hF] at hown
    obtain ⟨Ao, co, rfl⟩ := own_form hown
    have HF := Lib.hid hF
    have HBR := Lib.hid hbr
    have HO := Lib.hid hown
    have hFl : F.length ≤ 1000 := by rw [hF]; have := Cd.lackTo_len cb ns k; omega
    have hzr : Z + 1 ≤ wr.heap.size := by have := hbr.size; have := HSZ.out; omega
    have HBW := Lib.hid (HBL.out.trans (hbr.mono (by omega)))
    have x0 := bx_cell ((hbr.block Z (by omega)).trans HB1.out)
    clear hF hbr hown
    by_cases hlt : k < ns.length
    · have hltI : (k : Int) < (ns.length : Int) := by omega
      have hk0 : (0 : Int) ≤ (k : Int) := by omega
      obtain ⟨bT, off, hA, hbT, hcell⟩ := HR.out.eight (by omega)
      subst hA
      have hkk : ∀ q : Addr, q.block = bT → wr.cell? q = w.cell? q := fun q hq => World.cell?_of_block (by rw [hq]; have := HBW.out; rw [HZ.out] at this; exact this.block bT hbT)
      obtain ⟨-, -, -, -, -, p5, p6, p7⟩ := hcell k hlt
      obtain ⟨n, hn'⟩ : ∃ n, n = Tx.nd ns k := ⟨_, rfl⟩
      rw [← hn'] at p5 p6 p7
      have q5 := (hkk ⟨bT, off + k * 8 + 5, none⟩ rfl).trans p5
      have q6 := (hkk ⟨bT, off + k * 8 + 6, none⟩ rfl).trans p6
      have q7 := (hkk ⟨bT, off + k * 8 + 7, none⟩ rfl).trans p7
      obtain ⟨z1, hz1'⟩ : ∃ z, (kind == 2) = z := ⟨_, rfl⟩
      obtain ⟨z2, hz2'⟩ : ∃ z, (n.state == 0) = z := ⟨_, rfl⟩
      obtain ⟨z3, hz3'⟩ : ∃ z, (n.lo == n.hi) = z := ⟨_, rfl⟩
      have HN : Hid (Cd.lackTo cb ns (k + 1) = F ++ (if (z1 && (!z2 || !z3)) = true then [(k : Int)] else [])) := Lib.hid (by
        rw [Cd.lackTo_succ, HF.out, HCB.out, ← hn']
        congr 1
        unfold Cd.lackB
        rw [← hz1', ← hz2', ← hz3']
        simp)
      have g2 : (n.state != 0) = !z2 := by rw [← hz2']; rfl
      have g3 : (n.lo != n.hi) = !z3 := by rw [← hz3']; rfl
      clear hkk hcell p5 p6 p7 hn'
      go_upto_region 5 with fail
      cases hzz : (z1 && (!z2 || !z3))
      · have HN1 : Hid (Cd.lackTo cb ns (k + 1) = F) := Lib.hid (by rw [HN.out, hzz]; simp)
        cases z1 <;> cases z2 <;> cases z3 <;> simp only [Bool.not_true, Bool.not_false] at g2 g3 <;> first
          | (exact absurd hzz (by decide))
          | (clear hzz
             go_quiet (fail)
             go_wp2_with fail
             go_roundg (ns.length - (k + 1))
             case measure => omega
             case rel => exact ⟨k + 1, by omega, rfl, by go_num, HBR.out.trans (drew_below _), by rw [HN1.out]; exact HO.out⟩)
      · have HN1 : Hid (Cd.lackTo cb ns (k + 1) = F ++ [(k : Int)]) := Lib.hid (by rw [HN.out, hzz]; simp)
        cases z1 <;> cases z2 <;> cases z3 <;> simp only [Bool.not_true, Bool.not_false] at g2 g3 <;> first
          | (exact absurd hzz (by decide))
          | (clear hzz
             go_quiet (fail)
             obtain ⟨wq, hwq⟩ : ∃ wq, wq = wr.drewN nq := ⟨_, rfl⟩
             rw [← hwq]
             have hbq : Below wr.heap.size wr wq := by rw [hwq]; exact drew_below _
             have hzq : wq.heap.size = wr.heap.size := by rw [hwq]; rfl
             have HOq : Hid (wq.ownsRow Z 3 1 (.slice Ao F.length co) F.length (F.flatMap encInt)) := Lib.hid (own_below HO.out hbq)
             have HBQ : Hid (Below (Z + 1) G wq) := Lib.hid (HBR.out.trans (hbq.mono hzr))
             have hzr2 : Z + 1 ≤ wq.heap.size := by omega
             clear hwq hbq hzq
             have hal : Below wq.heap.size wq (wq.alloc (.cells #[.int .i64 (k : Int)] 3)) := (Below.refl _ _).alloc (Nat.le_refl _) _
             have HO6 := Lib.hid (own_below HOq.out hal)
             have HAL := Lib.hid hal
             have HRX : Hid (RdS (wq.alloc (.cells #[.int .i64 (k : Int)] 3)) (wq.alloc (.cells #[.int .i64 (k : Int)] 3)).heap.size 1 encInt (.slice (some ⟨wq.heap.size, 0, none⟩) 1 1) [(k : Int)]) := Lib.hid (rds_block (xs := [(k : Int)]) len_int (heap_alloc_new _ _) rfl (by simp) (Nat.le_refl 1) (by decide))
             have hm1 : F.length + [(k : Int)].length ≤ maxLen := by simp [maxLen]; omega
             have hm2 : (F.length + [(k : Int)].length) * 8 ≤ 140737488355328 := by simp; omega
             have hm3 : Z ≤ (wq.alloc (.cells #[.int .i64 (k : Int)] 3)).heap.size := by simp; omega
             have HM1 := Lib.hid hm1
             have HM2 := Lib.hid hm2
             have HM3 := Lib.hid hm3
             clear hal hm1 hm2 hm3
             go_wp2_with (at_builtin; (refine wpList_append_rd (enc := encInt) rfl (.tmp 40) (.tmp 42) _ rfl Z 3 i1 _ 1 8 len_int one_int Tryz.underlying32 hi1 hz1 hs1 hb1 rfl (by decide) (.slice Ao F.length co) F.length (F.flatMap encInt) rfl HO6.out _ (.slice (some ⟨wq.heap.size, 0, none⟩) 1 1) [(k : Int)] rfl HRX.out HM1.out HM2.out HM3.out ?_))
             intro v8 w8 hown8 hg8 hat8
             have HB8 : Hid (Below (Z + 1) G w8) := Lib.hid ((HBQ.out.trans (HAL.out.mono hzr2)).grown hg8 (by simp; omega) fun q hq => by
               have h1 := (HO6.out.lt q hq).1
               have h2 : q ≠ Z := fun e => by
                 rcases HO6.out.2 with ⟨hv, -⟩ | ⟨g, cap, cur, hv, hg, hh, -⟩
                 · rw [hv] at hq; cases hq
                 · rw [hv] at hq
                   have e3 : g = q := by simpa [Value.ownBlock] using hq
                   rw [e3, e] at hh
                   have hz := ((HBQ.out.trans (HAL.out.mono hzr2)).block Z (by have := HSZ.out; omega)).trans HB1.out
                   rw [hh] at hz
                   injection hz with hz
                   injection hz with _ hz
                   exact absurd hz (by decide)
               omega)
             have HO8 : Hid (w8.ownsRow Z 3 1 v8 (F ++ [(k : Int)]).length ((F ++ [(k : Int)]).flatMap encInt)) := Lib.hid (by rw [List.length_append, List.flatMap_append]; exact hown8)
             clear hown8 hg8 hat8
             go_wp2_with fail
             go_roundg (ns.length - (k + 1))
             case measure => omega
             case rel => exact ⟨k + 1, by omega, rfl, by go_num, HB8.out, by rw [HN1.out]; exact HO8.out⟩)
    · have hltI : ¬ (k : Int) < (ns.length : Int) := by omega
      have HFE : Hid (F = Cd.lackTo cb ns ns.length) := Lib.hid (by rw [HF.out, show k = ns.length by omega])
      go_wp2_with fail
      go_ret
      rw [HFE.out]
      refine HRES.out Ao co wr HBW.out ?_
      rw [← HFE.out]
      exact HO.out
set_option maxRecDepth 100000 in
set_option maxHeartbeats 16000000 in
/-- ostraconref03.Lacks -/
theorem r3Lacks_any (kind : Int) (l : Sg.SList) (ns : List Tx.Node) (vl : Value) (w : World) (A : Option Addr) (c : Nat) (hl : RdSL w w.heap.size vl l) (h : RdN w w.heap.size (.slice A ns.length c) ns) :
    Calls Tryz.prog 16 #[.int .i64 kind, vl, .agg #[.slice A ns.length c]] w (RetLk (Cd.lacksQ kind l ns) w) := by
  have HL := Lib.hid hl
  have HR := Lib.hid h
  obtain ⟨⟨us, rfl, hsg⟩, -⟩ := hl
  obtain ⟨As, cs, rfl, -⟩ := id hsg
  obtain ⟨Z, hZ⟩ : ∃ Z, Z = w.heap.size := ⟨_, rfl⟩
  have HZ := Lib.hid hZ
  obtain ⟨bk, hbk⟩ : ∃ bk, bk = decide (kind = 1 ∨ kind = 2) := ⟨_, rfl⟩
  have HKN : Hid (∀ W, Calls Tryz.prog 37 #[.int .i64 kind] W (fun e w' => e = .returned (.bool bk) ∧ w' = W)) := Lib.hid fun W => by rw [hbk]; exact r3known_any kind W
  have HBK := Lib.hid hbk
  clear hsg h hZ hbk
  go_enter Tryz.func16, Tryz.ntmps16
  go_wp2_with fail
  rw [← HZ.out]
  refine at_worldF ?_
  intro WL hWL
  have hbl : Below Z w WL := by rw [hWL, HZ.out]; exact ((Below.refl _ _).alloc (Nat.le_refl _) _).alloc (by simp) _
  have hsz : WL.heap.size = Z + 2 := by rw [hWL, HZ.out]; simp
  have b0 : WL.heap[Z]? = some (.cells #[.int .i64 l.periods, .slice As l.signs.length cs] 24 (0, 0)) := by rw [hWL, HZ.out]; exact heap_alloc2_old _ _ _
  have b1 : WL.heap[Z + 1]? = some (.cells #[.slice A ns.length c] 27 (0, 0)) := by rw [hWL, HZ.out]; exact heap_alloc2_new _ _ _
  have HBL := Lib.hid hbl
  have HSZ := Lib.hid hsz
  have HB1 := Lib.hid b1
  obtain ⟨x0, x1⟩ := box2_cells b0
  have x2 := bx_cell b1
  clear hWL hbl hsz b0 b1
  refine (HKN.out WL).mono ?_
  rintro e w1 ⟨rfl, rfl⟩
  have hbw : Below w.heap.size w w1 := by rw [← HZ.out]; exact HBL.out
  have HBWN := Lib.hid hbw
  cases bk
  · have HE : Hid (Cd.lacksQ kind l ns = ([], 1)) := Lib.hid (by
      have hk := of_decide_eq_false HBK.out.symm
      have e1 : Cd.lacksE kind l ns = 1 := by
        unfold Cd.lacksE
        rw [if_pos (by omega)]
      unfold Cd.lacksQ
      rw [e1]
      rfl)
    clear hbw
    go_wp2_with fail
    refine bodyPost_ret (results_tmp2 rfl _ _ _) rfl ?_
    exact RetLk.nil HE.out HBWN.out
  obtain ⟨ev, hev⟩ : ∃ ev, ev = Tx.checkT l ns := ⟨_, rfl⟩
  have HCK : Hid (Calls Tryz.prog 23 #[.agg #[.int .i64 l.periods, .slice As l.signs.length cs], .agg #[.slice A ns.length c]] w1 (RetE ev w1)) := Lib.hid (by
    rw [hev]
    exact r2Check_any l ns _ w1 A c (HL.out.keep hbw.size hbw) ((HR.out.below hbw).more hbw.size))
  have HEQ : Hid (Cd.lacksE kind l ns = ev) := Lib.hid (by
    have hk := of_decide_eq_true HBK.out.symm
    unfold Cd.lacksE
    rw [if_neg (by omega), hev])
  have HEV := Lib.hid hev
  clear hbw hev
  go_wp2_with fail
  refine HCK.out.mono ?_
  rintro e w3 ⟨rfl, hb3⟩
  have hb3w : Below w.heap.size w w3 := HBWN.out.trans (hb3.mono HBWN.out.size)
  have HB3 := Lib.hid hb3w
  have y2 := bx_cell ((hb3.block (Z + 1) (by have := HSZ.out; omega)).trans HB1.out)
  clear hb3 x0 x1 x2 HCK
  by_cases ke : ev = 0
  case neg =>
    have t0 : (ev == 0) = false := by simp [ke]
    have t0' : (ev != 0) = true := by simp [ke]
    have HE : Hid (Cd.lacksQ kind l ns = ([], ev)) := Lib.hid (by
      unfold Cd.lacksQ
      rw [HEQ.out, if_pos ke])
    clear ke hb3w
    go_wp2_with fail
    refine bodyPost_ret (results_tmp2 rfl _ _ _) rfl ?_
    exact RetLk.nil HE.out HB3.out
  subst ke
  have HE : Hid (Cd.lacksQ kind l ns = (Cd.lacksV kind ns, 0)) := Lib.hid (by
    unfold Cd.lacksQ
    rw [HEQ.out, if_neg (by simp)])
  have hn200 := (Cd.valid_of HEV.out.symm).2
  have HLK := Lib.hid (r3lacks_any kind ns w3 A c ((HR.out.below hb3w).more hb3w.size) (by omega))
  have HRES : Hid (∀ A' c' W', Below w3.heap.size w3 W' → W'.ownsRow w3.heap.size 3 1 (.slice A' (Cd.lacksV kind ns).length c') (Cd.lacksV kind ns).length ((Cd.lacksV kind ns).flatMap encInt) → RetLk (Cd.lacksQ kind l ns) w (.returned (.tuple #[.slice A' (Cd.lacksV kind ns).length c', .int .i64 0])) W') := Lib.hid fun A' c' W' q1 q2 => by
    rw [HE.out]
    exact ⟨A', c', rfl, HB3.out.trans (q1.mono HB3.out.size), q2.mono HB3.out.size⟩
  obtain ⟨ls, hls⟩ : ∃ ls, ls = Cd.lacksV kind ns := ⟨_, rfl⟩
  unfold RetLs at HLK
  rw [← hls] at HLK HRES
  clear hb3w hls
  go_wp2_with fail
  refine HLK.out.mono ?_
  rintro e w4 ⟨A4, c4, rfl, hb4, ho4⟩
  have HB4 := Lib.hid hb4
  have HO4 := Lib.hid ho4
  clear hb4 ho4
  go_wp2_with fail
  refine bodyPost_ret (results_tmp2 rfl _ _ _) rfl ?_
  exact HRES.out A4 c4 w4 HB4.out HO4.out
end Go.Proofs.YtenmkbpdkfhbjaaGreat
namespace Go.Proofs.YtenmkbpdkfhbjaaGreat
open Go Go.RowKit

theorem ints_ex {w : World} {B n c : Nat} {A : Option Addr} {xs : List Int} (h : RdS w B 1 encInt (.slice A n c) xs) (h0 : 0 < xs.length) :
    ∃ b off, A = some ⟨b, off, none⟩ ∧ b < B ∧ ∀ k x, xs[k]? = some x → w.cell? ⟨b, off + k, none⟩ = some (.int .i64 x) := by
  obtain ⟨A', c', e, _, _, h⟩ := h
  obtain ⟨b, off, e', hb, hc⟩ := h h0
  injection e with e1 e2 e3
  refine ⟨b, off, e1.trans e', hb, fun k x hk => ?_⟩
  have := hc k x hk 0 _ rfl
  simpa using this
set_option maxRecDepth 100000 in
set_option maxHeartbeats 4000000 in
theorem l1SameInts_any {B B' : Nat} (v v' : Value) (xs : List Int) (w : World) (hx : RdS w B 1 encInt v xs) (hy : RdS w B' 1 encInt v' xs) : Calls Tryz.prog 17 #[v, v'] w (RetBB true w) := by
  obtain ⟨A, c, rfl, hlc, hc63⟩ := rds_form hx
  obtain ⟨A', c', rfl, hlc', hc63'⟩ := rds_form hy
  have HX := Lib.hid hx
  have HY := Lib.hid hy
  clear hx hy
  go_enter Tryz.func17, Tryz.ntmps17
  go_wp2_with fail
  go_loopg [5] xs.length (fun g i wr => ∃ k : Nat, k ≤ xs.length ∧ g = xs.length - k ∧ i = .int .i64 k ∧ (∃ n, wr = w.drewN n))
  case atStart => exact ⟨0, Nat.zero_le _, rfl, rfl, ⟨0, rfl⟩⟩
  case round =>
    obtain ⟨k, hk, rfl, rfl, ⟨nd, hwr⟩⟩ := hrel
    have HB : Hid (Below w.heap.size w wr) := Lib.hid (by rw [hwr]; exact below_drewN (Below.refl _ _) _)
    have HCE : Hid (∀ p, wr.cell? p = w.cell? p) := Lib.hid fun p => by rw [hwr]; rfl
    have HWR : Hid (∀ n, ∃ m, wr.drewN n = w.drewN m) := Lib.hid fun n => ⟨nd + n, by rw [hwr]; exact (World.drewN_drewN _ _ _)⟩
    clear hwr
    by_cases hlt : k < xs.length
    · obtain ⟨e, he⟩ : ∃ e, xs[k]? = some e := ⟨_, List.getElem?_eq_getElem hlt⟩
      obtain ⟨b, off, rfl, hb, hcell⟩ := ints_ex HX.out (by omega)
      obtain ⟨b', off', rfl, hb', hcell'⟩ := ints_ex HY.out (by omega)
      have f0 := (HCE.out ⟨b, off + k, none⟩).trans (hcell k e he)
      have f1 := (HCE.out ⟨b', off' + k, none⟩).trans (hcell' k e he)
      have hkI : (0 : Int) ≤ (k : Int) := by omega
      have hkJ : (k : Int) < (xs.length : Int) := by omega
      clear he hcell hcell'
      go_wp2_with fail
      go_quiet (fail)
      go_wp2_with fail
      go_roundg (xs.length - (k + 1))
      case measure => omega
      case rel => exact ⟨k + 1, by omega, rfl, by go_num, HWR.out _⟩
    · go_wp2_with fail
      go_ret
      exact ⟨rfl, HB.out⟩
end Go.Proofs.YtenmkbpdkfhbjaaGreat
