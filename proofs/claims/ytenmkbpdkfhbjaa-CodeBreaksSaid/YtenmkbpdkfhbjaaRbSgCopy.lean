/- Small facts on rows of signs that are made.; ostraconref01.Copy. -/
import Derived.Test.YtenmkbpdkfhbjaaRbSgCheck
import Derived.Lib.SmallJoins
import Derived.Test.YtenmkbpdkfhbjaaRbGlossPlain
import Derived.Test.YtenmkbpdkfhbjaaRbIdle
namespace Go.Proofs.Ytenmkbpdkfhbjaa
open Go Go.RowKit

def encS (q : ByteArray × Int × Int × Bool × (Option Addr × Nat × Nat)) : List Value := [.string q.1, .int .i64 q.2.1, .int .i64 q.2.2.1, .bool q.2.2.2.1, .slice q.2.2.2.2.1 q.2.2.2.2.2.1 q.2.2.2.2.2.2]
theorem len_S (q : ByteArray × Int × Int × Bool × (Option Addr × Nat × Nat)) : (encS q).length = 5 := rfl
theorem grown_setA (w : World) (a : Addr) (u : Value) : w.grownBy (w.setCell a u) (some a.block) := ⟨rfl, rfl, rfl, by simp [World.setCell], fun i _ hi => Below.heap_setCell _ _ _ _ (fun e => hi (by rw [e]))⟩
theorem gset {w : World} {g i : Nat} {cs : Array Value} {t : TypeId} {fr : Nat × Nat} (h : w.heap[g]? = some (.cells cs t fr)) (v : Value) : (w.setCell ⟨g, i, none⟩ v).heap[g]? = some (.cells (cs.setIfInBounds i v) t fr) := Go.Joins.block_setCell h v
theorem one_S (q : ByteArray × Int × Int × Bool × (Option Addr × Nat × Nat)) : ∀ u ∈ encS q, u.oneCell' = true := by intro u hu; simp [encS] at hu; rcases hu with rfl | rfl | rfl | rfl | rfl <;> rfl
theorem rd_one_sign (W : World) (q : ByteArray × Int × Int × Bool × (Option Addr × Nat × Nat)) : RdS (W.alloc (.cells #[.string q.1, .int .i64 q.2.1, .int .i64 q.2.2.1, .bool q.2.2.2.1, .slice q.2.2.2.2.1 q.2.2.2.2.2.1 q.2.2.2.2.2.2] 39)) (W.alloc (.cells #[.string q.1, .int .i64 q.2.1, .int .i64 q.2.2.1, .bool q.2.2.2.1, .slice q.2.2.2.2.1 q.2.2.2.2.2.1 q.2.2.2.2.2.2] 39)).heap.size 5 encS (.slice (some ⟨W.heap.size, 0, none⟩) 1 1) [q] :=
  rds_block (xs := [q]) len_S (heap_alloc_new W _) rfl (by simp) (Nat.le_refl 1) (by decide)
end Go.Proofs.Ytenmkbpdkfhbjaa
namespace Go.Proofs.Ytenmkbpdkfhbjaa
open Go Go.RowKit

/-- sizes at which lists are copied -/
def Sg.Small (l : Sg.SList) : Prop := l.signs.length ≤ 1000 ∧ ∀ s ∈ l.signs, s.values.length ≤ 1000
def RetList (l : Sg.SList) (w : World) (e : Ending) (w' : World) : Prop := ∃ v, e = .returned v ∧ RdSL w' w'.heap.size v l ∧ Below w.heap.size w w'
set_option maxRecDepth 100000 in
set_option maxHeartbeats 8000000 in
theorem r1Copy_any (v : Value) (l : Sg.SList) (w : World) (hr : RdSL w w.heap.size v l) (hsm : Sg.Small l) : Calls Try.prog 6 #[v] w (RetList l w) := by
  obtain ⟨⟨u, rfl, hg⟩, hf⟩ := hr
  obtain ⟨hsm1, hsm2⟩ := hsm
  obtain ⟨A0, c0, rfl⟩ := hg.form
  have HG0 := Lib.hid hg
  have HFS := Lib.hid hf
  have HSM := Lib.hid hsm2
  obtain ⟨i0, hi0, hz0, hs0', hb0'⟩ := info_parts info_Value
  obtain ⟨i1, hi1, hz1, hs1', hb1'⟩ := info_parts info_Sign
  obtain ⟨W1, hW1⟩ : ∃ W1, W1 = ((w.alloc (.cells #[.int .i64 l.periods, .slice A0 l.signs.length c0] 24)).alloc (.cells #[.int .i64 0, .slice none 0 0] 24)).alloc (.cells #[.int .i64 l.periods, .slice none 0 0] 24) := ⟨_, rfl⟩
  have hb1 : Below w.heap.size w W1 := by rw [hW1]; exact (((Below.refl _ _).alloc (Nat.le_refl _) _).alloc (by simp) _).alloc (by simp; omega) _
  have hX : W1.heap[w.heap.size]? = some (.cells #[.int .i64 l.periods, .slice A0 l.signs.length c0] 24 (0, 0)) := by rw [hW1, Below.heap_alloc _ _ _ (by simp; omega)]; exact start_fst w _ _
  have hY : W1.heap[w.heap.size + 1]? = some (.cells #[.int .i64 0, .slice none 0 0] 24 (0, 0)) := by rw [hW1, Below.heap_alloc _ _ _ (by simp)]; exact start_res' w _ _
  have hZ : W1.heap[w.heap.size + 2]? = some (.cells #[.int .i64 l.periods, .slice none 0 0] 24 (0, 0)) := by
    rw [hW1]
    have := heap_alloc_new ((w.alloc (.cells #[.int .i64 l.periods, .slice A0 l.signs.length c0] 24)).alloc (.cells #[.int .i64 0, .slice none 0 0] 24)) (.cells #[.int .i64 l.periods, .slice none 0 0] 24)
    simpa using this
  have hs1 : w.heap.size + 2 < W1.heap.size := (Array.getElem?_eq_some_iff.1 hZ).1
  have HB1 := Lib.hid hb1
  have HW1 := Lib.hid hW1
  have HX1 := Lib.hid hX
  have HY1 := Lib.hid hY
  have HZ1 := Lib.hid hZ
  clear hg hf hsm2 hW1 hb1 hX hY hZ
  go_enter Try.func6, Try.ntmps6
  go_upto_region 2 with fail
  rw [← HW1.out]
  go_wp2_with fail
  go_loopg [4] l.signs.length (fun g i wr => ∃ (k : Nat) (vv : Value), k ≤ l.signs.length ∧ g = l.signs.length - k ∧ i = .int .i64 k ∧ Below w.heap.size w wr ∧ wr.heap[w.heap.size]? = some (.cells #[.int .i64 l.periods, .slice A0 l.signs.length c0] 24 (0, 0)) ∧ wr.heap[w.heap.size + 1]? = some (.cells #[.int .i64 0, .slice none 0 0] 24 (0, 0)) ∧ wr.heap[w.heap.size + 2]? = some (.cells #[.int .i64 l.periods, vv] 24 (0, 0)) ∧ OwnG KSign 39 wr (w.heap.size + 3) vv (l.signs.take k))
  case atStart => exact ⟨0, .slice none 0 0, Nat.zero_le _, rfl, rfl, HB1.out, HX1.out, HY1.out, HZ1.out, OwnG.nil _ _ _⟩
  case round =>
    obtain ⟨k, vv, hk, rfl, rfl, hbel, hx, hy, hz, hown⟩ := hrel
    obtain ⟨Av, cv, rfl⟩ := hown.form
    have hlt3 : w.heap.size + 2 < wr.heap.size := (Array.getElem?_eq_some_iff.1 hz).1
    have HBW := Lib.hid hbel
    have HX := Lib.hid hx
    have HY := Lib.hid hy
    have HZ := Lib.hid hz
    have HOK := Lib.hid hown
    have x1 : wr.cell? ⟨w.heap.size, 1, none⟩ = some (.slice A0 l.signs.length c0) := by simp [World.cell?, hx]
    have htk : (l.signs.take k).length = k := by rw [List.length_take]; omega
    clear hbel hx hy hz hown
    by_cases hlt : k < l.signs.length
    · obtain ⟨b, off, rfl, hb, hcell⟩ := HG0.out.five (by omega)
      obtain ⟨s, hs⟩ : ∃ s, l.signs[k]? = some s := ⟨_, List.getElem?_eq_getElem hlt⟩
      obtain ⟨uv, hrd, g0, g1, g2, g3, g4⟩ := hcell k s hs
      have f0 := (HBW.out.cell (p := ⟨b, off + k * 5, none⟩) hb).trans g0
      have f1 := (HBW.out.cell (p := ⟨b, off + k * 5 + 1, none⟩) hb).trans g1
      have f2 := (HBW.out.cell (p := ⟨b, off + k * 5 + 2, none⟩) hb).trans g2
      have f3 := (HBW.out.cell (p := ⟨b, off + k * 5 + 3, none⟩) hb).trans g3
      have f4 := (HBW.out.cell (p := ⟨b, off + k * 5 + 4, none⟩) hb).trans g4
      obtain ⟨A2, c2, rfl, hvc, hvm⟩ := rds_form hrd.rds
      have hvl := HSM.out s (List.mem_of_getElem? hs)
      obtain ⟨wS, hwS⟩ : ∃ wS, wS = wr.alloc (.cells #[.string s.code, .int .i64 s.wide, .int .i64 s.high, .bool s.even, .slice A2 s.values.length c2] 39) := ⟨_, rfl⟩
      have hbS : Below wr.heap.size wr wS := by rw [hwS]; exact (Below.refl _ _).alloc (Nat.le_refl _) _
      have hsb : wS.heap[wr.heap.size]? = some (.cells #[.string s.code, .int .i64 s.wide, .int .i64 s.high, .bool s.even, .slice A2 s.values.length c2] 39 (0, 0)) := by rw [hwS]; exact heap_alloc_new _ _
      have hszS : wr.heap.size < wS.heap.size := by rw [hwS]; simp
      have HBWS := Lib.hid (HBW.out.trans (hbS.mono (by omega)))
      have HBS := Lib.hid hbS
      have HSB := Lib.hid hsb
      have s4 : wS.cell? ⟨wr.heap.size, 4, none⟩ = some (.slice A2 s.values.length c2) := by simp [World.cell?, hsb]
      have HRV : Hid (RdS (wS.alloc (.cells #[] 63)) w.heap.size 4 encValue (.slice A2 s.values.length c2) s.values) := Lib.hid (hrd.rds.below (HBWS.out.alloc (by omega) _))
      have HOE : Hid ((wS.alloc (.cells #[] 63)).ownsRow wS.heap.size 63 4 (.slice (some ⟨wS.heap.size, 0, none⟩) 0 0) 0 []) := Lib.hid (own_empty (Nat.le_refl _))
      have HS := Lib.hid hs
      have HWS := Lib.hid hwS
      have hkI : (0 : Int) ≤ (k : Int) := by omega
      have hkJ : (k : Int) < (l.signs.length : Int) := by omega
      have hk1 : 0 + s.values.length ≤ maxLen := by simp only [maxLen]; omega
      have hk2 : (0 + s.values.length) * 40 ≤ 140737488355328 := by omega
      have hbase : wS.heap.size ≤ (wS.alloc (.cells #[] 63)).heap.size := by simp
      clear hcell hs g0 g1 g2 g3 g4 hrd hwS hbS hsb
      go_upto_region 6 with fail
      rw [← HWS.out]
      clear f0 f1 f2 f3 f4 x1
      go_wp2_with (at_builtin; go_must (refine wpList_append_rd (enc := encValue) rfl (.tmp 21) (.tmp 23) _ rfl wS.heap.size 63 i0 _ 4 40 len_value one_value Try.underlying37 hi0 hz0 hs0' hb0' rfl (by decide) (.slice (some ⟨wS.heap.size, 0, none⟩) 0 0) 0 [] rfl HOE.out w.heap.size (.slice A2 s.values.length c2) s.values rfl HRV.out hk1 hk2 hbase ?_))
      intro v8 w8 hown8 hg8 hat8
      have hown8' : w8.ownsRow wS.heap.size 63 4 v8 s.values.length (s.values.flatMap encValue) := by simpa using hown8
      obtain ⟨A8, c8, rfl⟩ := own_form hown8'
      have hsz8 := hg8.size
      have hsz8' : wS.heap.size < w8.heap.size := by simp at hsz8; omega
      have hbl8 : ∀ j, j < wS.heap.size → w8.heap[j]? = wS.heap[j]? := fun j hj => (hg8.block _ (by simp; omega) (fun e => by simp [Value.ownBlock] at e; omega)).trans (((Below.refl wS.heap.size wS).alloc (Nat.le_refl _) _).block j hj)
      have hb8 : Below wS.heap.size wS w8 := ((Below.refl wS.heap.size wS).alloc (Nat.le_refl _) (.cells #[] 63)).grown hg8 (by simp) (fun q hq => by simp [Value.ownBlock] at hq; omega)
      have hsb8 := (hbl8 _ (by omega)).trans HSB.out
      have HRX := Lib.hid (rdx_of_own len_value hown8')
      have s4 : w8.cell? ⟨wr.heap.size, 4, none⟩ = some (.slice A2 s.values.length c2) := by simp [World.cell?, hsb8]
      have y4 : w8.frozen? ⟨wr.heap.size, 4, none⟩ = false := by simp [World.frozen?, hsb8]
      obtain ⟨w9, hw9⟩ : ∃ w9, w9 = w8.setCell ⟨wr.heap.size, 4, none⟩ (.slice A8 s.values.length c8) := ⟨_, rfl⟩
      have hsb9 : w9.heap[wr.heap.size]? = some (.cells #[.string s.code, .int .i64 s.wide, .int .i64 s.high, .bool s.even, .slice A8 s.values.length c8] 39 (0, 0)) := by rw [hw9]; exact gset hsb8 _
      have hb9 : Below wr.heap.size wr w9 := by rw [hw9]; exact (HBS.out.trans (hb8.mono (by omega))).setCell (Nat.le_refl _) _
      have hsz9 : w8.heap.size ≤ w9.heap.size := by rw [hw9]; simp [World.setCell]
      have HSZ9 : Hid (w9.heap.size = w8.heap.size) := Lib.hid (by rw [hw9]; simp [World.setCell])
      have HK9 : Hid (∀ j, wS.heap.size ≤ j → w9.heap[j]? = w8.heap[j]?) := Lib.hid fun j hj => by rw [hw9]; exact Below.heap_setCell _ ⟨wr.heap.size, 4, none⟩ _ _ (by show j ≠ wr.heap.size; omega)
      have HW9 := Lib.hid hw9
      have HB9 := Lib.hid hb9
      have HX9 := Lib.hid ((hb9.block w.heap.size (by omega)).trans HX.out)
      have HY9 := Lib.hid ((hb9.block (w.heap.size + 1) (by omega)).trans HY.out)
      have hz9 := (hb9.block (w.heap.size + 2) (by omega)).trans HZ.out
      have HZ9 := Lib.hid hz9
      clear hown8 hown8' hg8 hat8 hbl8 hb8 hsb8 hw9 hb9
      go_upto_region 7 with fail
      rw [← HW9.out]
      clear s4 y4
      have v0 : w9.cell? ⟨wr.heap.size, 0, none⟩ = some (.string s.code) := by simp [World.cell?, hsb9]
      have v1 : w9.cell? ⟨wr.heap.size, 1, none⟩ = some (.int .i64 s.wide) := by simp [World.cell?, hsb9]
      have v2 : w9.cell? ⟨wr.heap.size, 2, none⟩ = some (.int .i64 s.high) := by simp [World.cell?, hsb9]
      have v3 : w9.cell? ⟨wr.heap.size, 3, none⟩ = some (.bool s.even) := by simp [World.cell?, hsb9]
      have v4 : w9.cell? ⟨wr.heap.size, 4, none⟩ = some (.slice A8 s.values.length c8) := by simp [World.cell?, hsb9]
      have c1 : w9.cell? ⟨w.heap.size + 2, 1, none⟩ = some (.slice Av k cv) := by
        have := hz9
        rw [htk] at this
        simp [World.cell?, this]
      have HO9 : Hid (OwnG KSign 39 (w9.alloc (.cells #[.string s.code, .int .i64 s.wide, .int .i64 s.high, .bool s.even, .slice A8 s.values.length c8] 39)) (w.heap.size + 3) (.slice Av k cv) (l.signs.take k)) := Lib.hid (by
        have := HOK.out.kept (HB9.out.trans ((Below.refl _ _).alloc (by omega) (.cells #[.string s.code, .int .i64 s.wide, .int .i64 s.high, .bool s.even, .slice A8 s.values.length c8] 39)))
        rwa [htk] at this)
      clear hsb9 hz9
      obtain ⟨cells, hown3, hgr3⟩ := HO9.out
      rw [htk] at hown3
      have HGR := Lib.hid hgr3
      have HOS := Lib.hid hown3
      have HRD := Lib.hid (rd_one_sign w9 (s.code, s.wide, s.high, s.even, (A8, s.values.length, c8)))
      have hk1 : k + 1 ≤ maxLen := by simp only [maxLen]; omega
      have hk2 : (k + 1) * 64 ≤ 140737488355328 := by omega
      have hbase : w.heap.size + 3 ≤ (w9.alloc (.cells #[.string s.code, .int .i64 s.wide, .int .i64 s.high, .bool s.even, .slice A8 s.values.length c8] 39)).heap.size := by simp; omega
      clear hgr3 hown3
      go_wp2_with (at_builtin; go_must (refine wpList_append_rd (enc := encS) rfl (.tmp 27) (.tmp 29) _ rfl (w.heap.size + 3) 39 i1 _ 5 64 len_S one_S Try.underlying22 hi1 hz1 hs1' hb1' rfl (by decide) (.slice Av k cv) k cells rfl HOS.out _ (.slice (some ⟨w9.heap.size, 0, none⟩) 1 1) [(s.code, s.wide, s.high, s.even, (A8, s.values.length, c8))] rfl HRD.out hk1 hk2 hbase ?_))
      intro v5 w5 hown5 hg5 hat5
      obtain ⟨A5, c5, hv5⟩ := own_form hown5
      have hv5' : v5 = .slice A5 (k + 1) c5 := hv5
      clear hv5
      subst hv5'
      have hsz5 := hg5.size
      have hbl5 : ∀ j, j < w.heap.size + 3 → w5.heap[j]? = w9.heap[j]? := fun j hj => (hg5.block _ (by simp; omega) (fun e => by have := (HOS.out.lt _ e.symm).1; omega)).trans (((Below.refl w9.heap.size w9).alloc (Nat.le_refl _) _).block j (by omega))
      have hx5 := (hbl5 _ (by omega)).trans HX9.out
      have hy5 := (hbl5 _ (by omega)).trans HY9.out
      have hz5 := (hbl5 _ (by omega)).trans HZ9.out
      have hb5 : Below w.heap.size w w5 := ((HBW.out.trans (HB9.out.mono (by omega))).alloc (by omega) _).grown hg5 (by simp; omega) (fun q hq => by have := (HOS.out.lt q hq).1; omega)
      have HON : Hid (OwnG KSign 39 w5 (w.heap.size + 3) (.slice A5 (k + 1) c5) (l.signs.take (k + 1))) := Lib.hid (by
        rw [List.take_add_one, HS.out]
        refine OwnG.snoc HGR.out (cs := encS (s.code, s.wide, s.high, s.even, (A8, s.values.length, c8))) ⟨.slice A8 s.values.length c8, rfl, ?_⟩ (by rw [htk]; exact hown5) hg5 ?_
        · refine HRX.out.keep fun j hj => ⟨⟨by simp; omega, fun e => ?_, by omega⟩, ?_⟩
          · have := (HOK.out.lt j (by rw [htk]; exact e)).2
            omega
          · exact (((Below.refl w9.heap.size w9).alloc (Nat.le_refl _) _).block j (by omega)).trans (HK9.out j (by omega))
        · rcases hat5 with h | h
          · exact .inl h
          · exact .inr ⟨_, h, by simp⟩)
      have c1 : w5.cell? ⟨w.heap.size + 2, 1, none⟩ = some (.slice Av k cv) := by
        have := hz5
        rw [htk] at this
        simp [World.cell?, this]
      have z1 : w5.frozen? ⟨w.heap.size + 2, 1, none⟩ = false := by simp [World.frozen?, hz5]
      obtain ⟨w6, hw6⟩ : ∃ w6, w6 = w5.setCell ⟨w.heap.size + 2, 1, none⟩ (.slice A5 (k + 1) c5) := ⟨_, rfl⟩
      have HZ6 : Hid (w6.heap[w.heap.size + 2]? = some (.cells #[.int .i64 l.periods, .slice A5 (k + 1) c5] 24 (0, 0))) := Lib.hid (by rw [hw6]; exact gset hz5 _)
      have HX6 : Hid (w6.heap[w.heap.size]? = some (.cells #[.int .i64 l.periods, .slice (some ⟨b, off, none⟩) l.signs.length c0] 24 (0, 0))) := Lib.hid (by rw [hw6, Below.heap_setCell _ ⟨w.heap.size + 2, 1, none⟩ _ _ (by show w.heap.size ≠ w.heap.size + 2; omega)]; exact hx5)
      have HY6 : Hid (w6.heap[w.heap.size + 1]? = some (.cells #[.int .i64 0, .slice none 0 0] 24 (0, 0))) := Lib.hid (by rw [hw6, Below.heap_setCell _ ⟨w.heap.size + 2, 1, none⟩ _ _ (by show w.heap.size + 1 ≠ w.heap.size + 2; omega)]; exact hy5)
      have HB6 : Hid (Below w.heap.size w w6) := Lib.hid (by rw [hw6]; exact hb5.setCell (by show w.heap.size ≤ w.heap.size + 2; omega) _)
      have HO6 : Hid (OwnG KSign 39 w6 (w.heap.size + 3) (.slice A5 (k + 1) c5) (l.signs.take (k + 1))) := Lib.hid (by rw [hw6]; exact HON.out.aside (grown_setA _ _ _) (by intro q hq; cases hq; show w.heap.size + 2 < _; omega))
      have HW6 := Lib.hid hw6
      clear hown5 hg5 hat5 hbl5 hx5 hy5 hz5 hb5 hw6 v0 v1 v2 v3 v4 hsz5
      go_upto_region 4 with fail
      rw [← HW6.out]
      clear c1 z1
      go_wp2_with fail
      go_roundg (l.signs.length - (k + 1))
      case measure => omega
      case rel => exact ⟨k + 1, .slice A5 (k + 1) c5, by omega, rfl, by go_num, HB6.out, HX6.out, HY6.out, HZ6.out, HO6.out⟩
    · have hkl : k = l.signs.length := by omega
      have HRG : Hid (RdG KSign wr (fun b => b < wr.heap.size ∧ w.heap.size + 3 ≤ b) (.slice Av (l.signs.take k).length cv) l.signs) := Lib.hid (by
        have := HOK.out.rd
        rwa [show l.signs.take k = l.signs by rw [hkl]; exact List.take_length] at this ⊢)
      have hz := HZ.out
      have hy := HY.out
      have m0 : wr.cell? ⟨w.heap.size + 2, 0, none⟩ = some (.int .i64 l.periods) := by simp [World.cell?, hz]
      have m1 : wr.cell? ⟨w.heap.size + 2, 1, none⟩ = some (.slice Av (l.signs.take k).length cv) := by simp [World.cell?, hz]
      have n0 : wr.cell? ⟨w.heap.size + 1, 0, none⟩ = some (.int .i64 0) := by simp [World.cell?, hy]
      have n1 : wr.cell? ⟨w.heap.size + 1, 1, none⟩ = some (.slice none 0 0) := by simp [World.cell?, hy]
      have y0 : wr.frozen? ⟨w.heap.size + 1, 0, none⟩ = false := by simp [World.frozen?, hy]
      have y1 : wr.frozen? ⟨w.heap.size + 1, 1, none⟩ = false := by simp [World.frozen?, hy]
      clear hz hy hkl
      generalize (l.signs.take k).length = nk at m1 HRG htk
      clear htk
      go_wp2_with fail
      refine bodyPost_ret (v := .agg #[.int .i64 l.periods, .slice Av nk cv]) (by simp [results, Try.results6, go_sem, n0, n1]) rfl ?_
      refine ⟨_, rfl, ⟨⟨_, rfl, HRG.out.keep fun j hj => ⟨by simp [World.setCell]; omega, ?_⟩⟩, HFS.out⟩, (HBW.out.setCell (by show w.heap.size ≤ w.heap.size + 1; omega) _).setCell (by show w.heap.size ≤ w.heap.size + 1; omega) _⟩
      rw [Below.heap_setCell _ ⟨w.heap.size + 1, 1, none⟩ _ _ (by show j ≠ w.heap.size + 1; omega), Below.heap_setCell _ ⟨w.heap.size + 1, 0, none⟩ _ _ (by show j ≠ w.heap.size + 1; omega)]
end Go.Proofs.Ytenmkbpdkfhbjaa
