/- ostraconref01.Copy (its row is the call's own), Tidy. Made by gen_r1tidy.py. -/
import Derived.Test.YtkmimjngmfdpmaaGreatDoorMkSgGTidy
import Derived.Test.YtkmimjngmfdpmaaGreatDoorMgIdle
namespace Go.Proofs.YtkmimjngmfdpmaaGreatDoor
open Go Go.RowKit

def RetListO (l : Sg.SList) (w : World) (e : Ending) (w' : World) : Prop := ∃ A c, e = .returned (.agg #[.int .i64 l.periods, .slice A l.signs.length c]) ∧ OwnG KSign 67 w' (w.heap.size + 3) (.slice A l.signs.length c) l.signs ∧ Below w.heap.size w w'
set_option maxRecDepth 100000 in
set_option maxHeartbeats 8000000 in
theorem r1CopyO_any (v : Value) (l : Sg.SList) (w : World) (hr : RdSL w w.heap.size v l) (hsm : Sg.Small l) : Calls Tryz.prog 19 #[v] w (RetListO l w) := by
  obtain ⟨⟨u, rfl, hg⟩, hf⟩ := hr
  obtain ⟨hsm1, hsm2⟩ := hsm
  obtain ⟨A0, c0, rfl⟩ := hg.form
  have HG0 := Lib.hid hg
  have HFS := Lib.hid hf
  have HSM := Lib.hid hsm2
  obtain ⟨i0, hi0, hz0, hs0', hb0'⟩ := info_parts info_Value
  obtain ⟨i1, hi1, hz1, hs1', hb1'⟩ := info_parts info_Sign
  obtain ⟨W1, hW1⟩ : ∃ W1, W1 = ((w.alloc (.cells #[.int .i64 l.periods, .slice A0 l.signs.length c0] 24)).alloc (.cells #[.int .i64 0, .slice none 0 0] 24)).alloc (.cells #[.int .i64 l.periods, .slice none 0 0] 24) := ⟨_, rfl⟩
  have hb1 : Below w.heap.size w W1 := by rw [hW1]; exact (((Below.refl _ _).alloc (Nat.le_refl _) _).alloc (by simp) _).alloc (by simp; omega) _
  have hX : W1.heap[w.heap.size]? = some (.cells #[.int .i64 l.periods, .slice A0 l.signs.length c0] 24 (0, 0)) := by rw [hW1, Below.heap_alloc _ _ _ (by simp; omega)]; exact start_fst w _ _
  have hY : W1.heap[w.heap.size + 1]? = some (.cells #[.int .i64 0, .slice none 0 0] 24 (0, 0)) := by rw [hW1, Below.heap_alloc _ _ _ (by simp)]; exact start_res' w _ _
  have hZ : W1.heap[w.heap.size + 2]? = some (.cells #[.int .i64 l.periods, .slice none 0 0] 24 (0, 0)) := by
    rw [hW1]
    have := heap_alloc_new ((w.alloc (.cells #[.int .i64 l.periods, .slice A0 l.signs.length c0] 24)).alloc (.cells #[.int .i64 0, .slice none 0 0] 24)) (.cells #[.int .i64 l.periods, .slice none 0 0] 24)
    simpa using this
  have hs1 : w.heap.size + 2 < W1.heap.size := (Array.getElem?_eq_some_iff.1 hZ).1
  have HB1 := Lib.hid hb1
  have HW1 := Lib.hid hW1
  have HX1 := Lib.hid hX
  have HY1 := Lib.hid hY
  have HZ1 := Lib.hid hZ
  clear hg hf hsm2 hW1 hb1 hX hY hZ
  go_enter Tryz.func19, Tryz.ntmps19
  go_upto_region 2 with fail
  rw [← HW1.out]
  go_wp2_with fail
  go_loopg [4] l.signs.length (fun g i wr => ∃ (k : Nat) (vv : Value), k ≤ l.signs.length ∧ g = l.signs.length - k ∧ i = .int .i64 k ∧ Below w.heap.size w wr ∧ wr.heap[w.heap.size]? = some (.cells #[.int .i64 l.periods, .slice A0 l.signs.length c0] 24 (0, 0)) ∧ wr.heap[w.heap.size + 1]? = some (.cells #[.int .i64 0, .slice none 0 0] 24 (0, 0)) ∧ wr.heap[w.heap.size + 2]? = some (.cells #[.int .i64 l.periods, vv] 24 (0, 0)) ∧ OwnG KSign 67 wr (w.heap.size + 3) vv (l.signs.take k))
  case atStart => exact ⟨0, .slice none 0 0, Nat.zero_le _, rfl, rfl, HB1.out, HX1.out, HY1.out, HZ1.out, OwnG.nil _ _ _⟩
  case round =>
    obtain ⟨k, vv, hk, rfl, rfl, hbel, hx, hy, hz, hown⟩ := hrel
    obtain ⟨Av, cv, rfl⟩ := hown.form
    have hlt3 : w.heap.size + 2 < wr.heap.size := (Array.getElem?_eq_some_iff.1 hz).1
    have HBW := Lib.hid hbel
    have HX := Lib.hid hx
    have HY := Lib.hid hy
    have HZ := Lib.hid hz
    have HOK := Lib.hid hown
    have x1 : wr.cell? ⟨w.heap.size, 1, none⟩ = some (.slice A0 l.signs.length c0) := by simp [World.cell?, hx]
    have htk : (l.signs.take k).length = k := by rw [List.length_take]; omega
    clear hbel hx hy hz hown
    by_cases hlt : k < l.signs.length
    · obtain ⟨b, off, rfl, hb, hcell⟩ := HG0.out.five (by omega)
      obtain ⟨s, hs⟩ : ∃ s, l.signs[k]? = some s := ⟨_, List.getElem?_eq_getElem hlt⟩
      obtain ⟨uv, hrd, g0, g1, g2, g3, g4⟩ := hcell k s hs
      have f0 := (HBW.out.cell (p := ⟨b, off + k * 5, none⟩) hb).trans g0
      have f1 := (HBW.out.cell (p := ⟨b, off + k * 5 + 1, none⟩) hb).trans g1
      have f2 := (HBW.out.cell (p := ⟨b, off + k * 5 + 2, none⟩) hb).trans g2
      have f3 := (HBW.out.cell (p := ⟨b, off + k * 5 + 3, none⟩) hb).trans g3
      have f4 := (HBW.out.cell (p := ⟨b, off + k * 5 + 4, none⟩) hb).trans g4
      obtain ⟨A2, c2, rfl, hvc, hvm⟩ := rds_form hrd.rds
      have hvl := HSM.out s (List.mem_of_getElem? hs)
      obtain ⟨wS, hwS⟩ : ∃ wS, wS = wr.alloc (.cells #[.string s.code, .int .i64 s.wide, .int .i64 s.high, .bool s.even, .slice A2 s.values.length c2] 67) := ⟨_, rfl⟩
      have hbS : Below wr.heap.size wr wS := by rw [hwS]; exact (Below.refl _ _).alloc (Nat.le_refl _) _
      have hsb : wS.heap[wr.heap.size]? = some (.cells #[.string s.code, .int .i64 s.wide, .int .i64 s.high, .bool s.even, .slice A2 s.values.length c2] 67 (0, 0)) := by rw [hwS]; exact heap_alloc_new _ _
      have hszS : wr.heap.size < wS.heap.size := by rw [hwS]; simp
      have HBWS := Lib.hid (HBW.out.trans (hbS.mono (by omega)))
      have HBS := Lib.hid hbS
      have HSB := Lib.hid hsb
      have s4 : wS.cell? ⟨wr.heap.size, 4, none⟩ = some (.slice A2 s.values.length c2) := by simp [World.cell?, hsb]
      have HRV : Hid (RdS (wS.alloc (.cells #[] 60)) w.heap.size 4 encValue (.slice A2 s.values.length c2) s.values) := Lib.hid (hrd.rds.below (HBWS.out.alloc (by omega) _))
      have HOE : Hid ((wS.alloc (.cells #[] 60)).ownsRow wS.heap.size 60 4 (.slice (some ⟨wS.heap.size, 0, none⟩) 0 0) 0 []) := Lib.hid (own_empty (Nat.le_refl _))
      have HS := Lib.hid hs
      have HWS := Lib.hid hwS
      have hkI : (0 : Int) ≤ (k : Int) := by omega
      have hkJ : (k : Int) < (l.signs.length : Int) := by omega
      have hk1 : 0 + s.values.length ≤ maxLen := by simp only [maxLen]; omega
      have hk2 : (0 + s.values.length) * 40 ≤ 140737488355328 := by omega
      have hbase : wS.heap.size ≤ (wS.alloc (.cells #[] 60)).heap.size := by simp
      clear hcell hs g0 g1 g2 g3 g4 hrd hwS hbS hsb
      go_upto_region 6 with fail
      rw [← HWS.out]
      clear f0 f1 f2 f3 f4 x1
      go_wp2_with (at_builtin; go_must (refine wpList_append_rd (enc := encValue) rfl (.tmp 21) (.tmp 23) _ rfl wS.heap.size 60 i0 _ 4 40 len_value one_value Tryz.underlying47 hi0 hz0 hs0' hb0' rfl (by decide) (.slice (some ⟨wS.heap.size, 0, none⟩) 0 0) 0 [] rfl HOE.out w.heap.size (.slice A2 s.values.length c2) s.values rfl HRV.out hk1 hk2 hbase ?_))
      intro v8 w8 hown8 hg8 hat8
      have hown8' : w8.ownsRow wS.heap.size 60 4 v8 s.values.length (s.values.flatMap encValue) := by simpa using hown8
      obtain ⟨A8, c8, rfl⟩ := own_form hown8'
      have hsz8 := hg8.size
      have hsz8' : wS.heap.size < w8.heap.size := by simp at hsz8; omega
      have hbl8 : ∀ j, j < wS.heap.size → w8.heap[j]? = wS.heap[j]? := fun j hj => (hg8.block _ (by simp; omega) (fun e => by simp [Value.ownBlock] at e; omega)).trans (((Below.refl wS.heap.size wS).alloc (Nat.le_refl _) _).block j hj)
      have hb8 : Below wS.heap.size wS w8 := ((Below.refl wS.heap.size wS).alloc (Nat.le_refl _) (.cells #[] 60)).grown hg8 (by simp) (fun q hq => by simp [Value.ownBlock] at hq; omega)
      have hsb8 := (hbl8 _ (by omega)).trans HSB.out
      have HRX := Lib.hid (rdx_of_own len_value hown8')
      have s4 : w8.cell? ⟨wr.heap.size, 4, none⟩ = some (.slice A2 s.values.length c2) := by simp [World.cell?, hsb8]
      have y4 : w8.frozen? ⟨wr.heap.size, 4, none⟩ = false := by simp [World.frozen?, hsb8]
      obtain ⟨w9, hw9⟩ : ∃ w9, w9 = w8.setCell ⟨wr.heap.size, 4, none⟩ (.slice A8 s.values.length c8) := ⟨_, rfl⟩
      have hsb9 : w9.heap[wr.heap.size]? = some (.cells #[.string s.code, .int .i64 s.wide, .int .i64 s.high, .bool s.even, .slice A8 s.values.length c8] 67 (0, 0)) := by rw [hw9]; exact gset hsb8 _
      have hb9 : Below wr.heap.size wr w9 := by rw [hw9]; exact (HBS.out.trans (hb8.mono (by omega))).setCell (Nat.le_refl _) _
      have hsz9 : w8.heap.size ≤ w9.heap.size := by rw [hw9]; simp [World.setCell]
      have HSZ9 : Hid (w9.heap.size = w8.heap.size) := Lib.hid (by rw [hw9]; simp [World.setCell])
      have HK9 : Hid (∀ j, wS.heap.size ≤ j → w9.heap[j]? = w8.heap[j]?) := Lib.hid fun j hj => by rw [hw9]; exact Below.heap_setCell _ ⟨wr.heap.size, 4, none⟩ _ _ (by show j ≠ wr.heap.size; omega)
      have HW9 := Lib.hid hw9
      have HB9 := Lib.hid hb9
      have HX9 := Lib.hid ((hb9.block w.heap.size (by omega)).trans HX.out)
      have HY9 := Lib.hid ((hb9.block (w.heap.size + 1) (by omega)).trans HY.out)
      have hz9 := (hb9.block (w.heap.size + 2) (by omega)).trans HZ.out
      have HZ9 := Lib.hid hz9
      clear hown8 hown8' hg8 hat8 hbl8 hb8 hsb8 hw9 hb9
      go_upto_region 7 with fail
      rw [← HW9.out]
      clear s4 y4
      have v0 : w9.cell? ⟨wr.heap.size, 0, none⟩ = some (.string s.code) := by simp [World.cell?, hsb9]
      have v1 : w9.cell? ⟨wr.heap.size, 1, none⟩ = some (.int .i64 s.wide) := by simp [World.cell?, hsb9]
      have v2 : w9.cell? ⟨wr.heap.size, 2, none⟩ = some (.int .i64 s.high) := by simp [World.cell?, hsb9]
      have v3 : w9.cell? ⟨wr.heap.size, 3, none⟩ = some (.bool s.even) := by simp [World.cell?, hsb9]
      have v4 : w9.cell? ⟨wr.heap.size, 4, none⟩ = some (.slice A8 s.values.length c8) := by simp [World.cell?, hsb9]
      have c1 : w9.cell? ⟨w.heap.size + 2, 1, none⟩ = some (.slice Av k cv) := by
        have := hz9
        rw [htk] at this
        simp [World.cell?, this]
      have HO9 : Hid (OwnG KSign 67 (w9.alloc (.cells #[.string s.code, .int .i64 s.wide, .int .i64 s.high, .bool s.even, .slice A8 s.values.length c8] 67)) (w.heap.size + 3) (.slice Av k cv) (l.signs.take k)) := Lib.hid (by
        have := HOK.out.kept (HB9.out.trans ((Below.refl _ _).alloc (by omega) (.cells #[.string s.code, .int .i64 s.wide, .int .i64 s.high, .bool s.even, .slice A8 s.values.length c8] 67)))
        rwa [htk] at this)
      clear hsb9 hz9
      obtain ⟨cells, hown3, hgr3⟩ := HO9.out
      rw [htk] at hown3
      have HGR := Lib.hid hgr3
      have HOS := Lib.hid hown3
      have HRD := Lib.hid (rd_one_sign w9 (s.code, s.wide, s.high, s.even, (A8, s.values.length, c8)))
      have hk1 : k + 1 ≤ maxLen := by simp only [maxLen]; omega
      have hk2 : (k + 1) * 64 ≤ 140737488355328 := by omega
      have hbase : w.heap.size + 3 ≤ (w9.alloc (.cells #[.string s.code, .int .i64 s.wide, .int .i64 s.high, .bool s.even, .slice A8 s.values.length c8] 67)).heap.size := by simp; omega
      clear hgr3 hown3
      go_wp2_with (at_builtin; go_must (refine wpList_append_rd (enc := encS) rfl (.tmp 27) (.tmp 29) _ rfl (w.heap.size + 3) 67 i1 _ 5 64 len_S one_S Tryz.underlying22 hi1 hz1 hs1' hb1' rfl (by decide) (.slice Av k cv) k cells rfl HOS.out _ (.slice (some ⟨w9.heap.size, 0, none⟩) 1 1) [(s.code, s.wide, s.high, s.even, (A8, s.values.length, c8))] rfl HRD.out hk1 hk2 hbase ?_))
      intro v5 w5 hown5 hg5 hat5
      obtain ⟨A5, c5, hv5⟩ := own_form hown5
      have hv5' : v5 = .slice A5 (k + 1) c5 := hv5
      clear hv5
      subst hv5'
      have hsz5 := hg5.size
      have hbl5 : ∀ j, j < w.heap.size + 3 → w5.heap[j]? = w9.heap[j]? := fun j hj => (hg5.block _ (by simp; omega) (fun e => by have := (HOS.out.lt _ e.symm).1; omega)).trans (((Below.refl w9.heap.size w9).alloc (Nat.le_refl _) _).block j (by omega))
      have hx5 := (hbl5 _ (by omega)).trans HX9.out
      have hy5 := (hbl5 _ (by omega)).trans HY9.out
      have hz5 := (hbl5 _ (by omega)).trans HZ9.out
      have hb5 : Below w.heap.size w w5 := ((HBW.out.trans (HB9.out.mono (by omega))).alloc (by omega) _).grown hg5 (by simp; omega) (fun q hq => by have := (HOS.out.lt q hq).1; omega)
      have HON : Hid (OwnG KSign 67 w5 (w.heap.size + 3) (.slice A5 (k + 1) c5) (l.signs.take (k + 1))) := Lib.hid (by
        rw [List.take_add_one, HS.out]
        refine OwnG.snoc HGR.out (cs := encS (s.code, s.wide, s.high, s.even, (A8, s.values.length, c8))) ⟨.slice A8 s.values.length c8, rfl, ?_⟩ (by rw [htk]; exact hown5) hg5 ?_
        · refine HRX.out.keep fun j hj => ⟨⟨by simp; omega, fun e => ?_, by omega⟩, ?_⟩
          · have := (HOK.out.lt j (by rw [htk]; exact e)).2
            omega
          · exact (((Below.refl w9.heap.size w9).alloc (Nat.le_refl _) _).block j (by omega)).trans (HK9.out j (by omega))
        · rcases hat5 with h | h
          · exact .inl h
          · exact .inr ⟨_, h, by simp⟩)
      have c1 : w5.cell? ⟨w.heap.size + 2, 1, none⟩ = some (.slice Av k cv) := by
        have := hz5
        rw [htk] at this
        simp [World.cell?, this]
      have z1 : w5.frozen? ⟨w.heap.size + 2, 1, none⟩ = false := by simp [World.frozen?, hz5]
      obtain ⟨w6, hw6⟩ : ∃ w6, w6 = w5.setCell ⟨w.heap.size + 2, 1, none⟩ (.slice A5 (k + 1) c5) := ⟨_, rfl⟩
      have HZ6 : Hid (w6.heap[w.heap.size + 2]? = some (.cells #[.int .i64 l.periods, .slice A5 (k + 1) c5] 24 (0, 0))) := Lib.hid (by rw [hw6]; exact gset hz5 _)
      have HX6 : Hid (w6.heap[w.heap.size]? = some (.cells #[.int .i64 l.periods, .slice (some ⟨b, off, none⟩) l.signs.length c0] 24 (0, 0))) := Lib.hid (by rw [hw6, Below.heap_setCell _ ⟨w.heap.size + 2, 1, none⟩ _ _ (by show w.heap.size ≠ w.heap.size + 2; omega)]; exact hx5)
      have HY6 : Hid (w6.heap[w.heap.size + 1]? = some (.cells #[.int .i64 0, .slice none 0 0] 24 (0, 0))) := Lib.hid (by rw [hw6, Below.heap_setCell _ ⟨w.heap.size + 2, 1, none⟩ _ _ (by show w.heap.size + 1 ≠ w.heap.size + 2; omega)]; exact hy5)
      have HB6 : Hid (Below w.heap.size w w6) := Lib.hid (by rw [hw6]; exact hb5.setCell (by show w.heap.size ≤ w.heap.size + 2; omega) _)
      have HO6 : Hid (OwnG KSign 67 w6 (w.heap.size + 3) (.slice A5 (k + 1) c5) (l.signs.take (k + 1))) := Lib.hid (by rw [hw6]; exact HON.out.aside (grown_set _ _ _) (by intro q hq; cases hq; show w.heap.size + 2 < _; omega))
      have HW6 := Lib.hid hw6
      clear hown5 hg5 hat5 hbl5 hx5 hy5 hz5 hb5 hw6 v0 v1 v2 v3 v4 hsz5
      go_upto_region 4 with fail
      rw [← HW6.out]
      clear c1 z1
      go_wp2_with fail
      go_roundg (l.signs.length - (k + 1))
      case measure => omega
      case rel => exact ⟨k + 1, .slice A5 (k + 1) c5, by omega, rfl, by go_num, HB6.out, HX6.out, HY6.out, HZ6.out, HO6.out⟩
    · have hkl : k = l.signs.length := by omega
      have HRG : Hid (OwnG KSign 67 wr (w.heap.size + 3) (.slice Av (l.signs.take k).length cv) l.signs) := Lib.hid (by
        have := HOK.out
        rwa [show l.signs.take k = l.signs by rw [hkl]; exact List.take_length] at this ⊢)
      have hnk : (l.signs.take k).length = l.signs.length := by rw [hkl, List.take_length]
      have hz := HZ.out
      have hy := HY.out
      have m0 : wr.cell? ⟨w.heap.size + 2, 0, none⟩ = some (.int .i64 l.periods) := by simp [World.cell?, hz]
      have m1 : wr.cell? ⟨w.heap.size + 2, 1, none⟩ = some (.slice Av (l.signs.take k).length cv) := by simp [World.cell?, hz]
      have n0 : wr.cell? ⟨w.heap.size + 1, 0, none⟩ = some (.int .i64 0) := by simp [World.cell?, hy]
      have n1 : wr.cell? ⟨w.heap.size + 1, 1, none⟩ = some (.slice none 0 0) := by simp [World.cell?, hy]
      have y0 : wr.frozen? ⟨w.heap.size + 1, 0, none⟩ = false := by simp [World.frozen?, hy]
      have y1 : wr.frozen? ⟨w.heap.size + 1, 1, none⟩ = false := by simp [World.frozen?, hy]
      clear hz hy hkl
      rw [hnk] at m1 HRG
      clear htk hnk
      go_wp2_with fail
      refine bodyPost_ret (v := .agg #[.int .i64 l.periods, .slice Av l.signs.length cv]) (by simp [results, Tryz.results19, go_sem, n0, n1]) rfl ?_
      refine ⟨Av, cv, rfl, (HRG.out.aside (grown_set _ _ _) (by intro q hq; cases hq; show w.heap.size + 1 < _; omega)).aside (grown_set _ _ _) (by intro q hq; cases hq; show w.heap.size + 1 < _; omega), (HBW.out.setCell (by show w.heap.size ≤ w.heap.size + 1; omega) _).setCell (by show w.heap.size ≤ w.heap.size + 1; omega) _⟩
theorem rdg_one {w : World} {ok : Nat → Prop} {b off n c k : Nat} {l : List Sg.Sign} {s : Sg.Sign} (h : RdG KSign w ok (.slice (some ⟨b, off, none⟩) n c) l) (hs : l[k]? = some s) : RdG KSign w ok (.slice (some ⟨b, off + k * 5, none⟩) 1 (c - k)) [s] := by
  obtain ⟨A, c', e, hl, hc, hh⟩ := h
  injection e with e1 e2 e3
  subst e1
  subst e3
  have hk := (List.getElem?_eq_some_iff.1 hs).1
  obtain ⟨b', off', e', hb, hcell⟩ := hh (by omega)
  injection e' with e'
  injection e' with e4 e5
  subst e4
  subst e5
  refine ⟨_, c - k, rfl, by simp; omega, by omega, fun _ => ⟨b, off + k * 5, rfl, hb, fun i a ha => ?_⟩⟩
  cases i with
  | succ i => simp at ha
  | zero =>
    simp at ha
    subst ha
    obtain ⟨cs, h1, h2⟩ := hcell k _ hs
    refine ⟨cs, h1, fun j u hj => ?_⟩
    have := h2 j u hj
    rw [Nat.zero_mul, Nat.add_zero]
    exact this
/-- a row of values beside the block that is written -/
theorem own_side {w : World} {B g : Nat} {e : TypeId} {size n : Nat} {v : Value} {xs : List Value} {o : Nat} (h : w.ownsRow B e size v n xs) (hg : g < B) (u : Value) : (w.setCell ⟨g, o, none⟩ u).ownsRow B e size v n xs :=
  h.kept (grown_set w ⟨g, o, none⟩ u) (by
    cases hv : v.ownBlock with
    | none => exact .inl rfl
    | some q =>
      refine .inr fun e => ?_
      have := (h.lt q hv).1
      injection e with e
      have e' : q = g := e
      omega)
theorem grows_set {w w' : World} {ok ok' : Nat → Prop} (hk : ∀ b, ok b → ok' b ∧ w'.heap[b]? = w.heap[b]?) {v : Value} {T : List Sg.Value} (hv : RdX w' ok' 4 encValue v T) {cells : List Value} {xs : List Sg.Sign} (h : grows KSign w ok cells xs) :
    ∀ {k : Nat} {s : Sg.Sign}, xs[k]? = some s → grows KSign w' ok' (cells.set (k * 5 + 4) v) (xs.set k ⟨s.code, s.wide, s.high, s.even, T⟩) := by
  induction h with
  | nil => intro k s hs; simp at hs
  | @cons cs r a xs h t ih =>
    intro k s hs
    have hl := KSign.len h
    cases k with
    | zero =>
      simp at hs
      subst hs
      obtain ⟨u, rfl, -⟩ := h
      exact grows.cons (cs := [.string a.code, .int .i64 a.wide, .int .i64 a.high, .bool a.even, v]) ⟨v, rfl, hv⟩ (t.keep hk)
    | succ k =>
      simp at hs
      have e : (cs ++ r).set ((k + 1) * 5 + 4) v = cs ++ r.set (k * 5 + 4) v := by
        have hl5 : cs.length = 5 := hl
        rw [List.set_append_right _ _ (by omega), hl5]
        congr 2
        omega
      rw [e, List.set_cons_succ]
      exact grows.cons (KSign.keep hk h) (ih hs)
theorem ownG_set {w : World} {base B g n c k : Nat} {xs : List Sg.Sign} {s : Sg.Sign} {v : Value} {T : List Sg.Value} (h : OwnG KSign 67 w base (.slice (some ⟨g, 0, none⟩) n c) xs) (hs : xs[k]? = some s) (hv : w.ownsRow B 60 4 v T.length (T.flatMap encValue)) (hg : g < B) (hB : base ≤ B) :
    OwnG KSign 67 (w.setCell ⟨g, k * 5 + 4, none⟩ v) base (.slice (some ⟨g, 0, none⟩) n c) (xs.set k ⟨s.code, s.wide, s.high, s.even, T⟩) := by
  obtain ⟨cells, ho, hgr⟩ := h
  refine ⟨cells.set (k * 5 + 4) v, ?_, grows_set (fun b hb => ⟨⟨by simp [World.setCell]; exact hb.1, hb.2.1, hb.2.2⟩, Below.heap_setCell _ ⟨g, k * 5 + 4, none⟩ _ _ (fun e => hb.2.1 (by rw [e]; rfl))⟩) ?_ hgr hs⟩
  · have hl := ho.1
    rcases ho.2 with ⟨e, -⟩ | ⟨g', cap', cur, e, hg', hh, hle, hm, hsz, ht⟩
    · cases e
    · cases e
      rw [List.length_set]
      refine ⟨by simpa using hl, .inr ⟨g, c, cur.setIfInBounds (k * 5 + 4) v, rfl, hg', gset hh _, hle, hm, by simpa using hsz, ?_⟩⟩
      have e1 : (cur.setIfInBounds (k * 5 + 4) v).toList = cur.toList.set (k * 5 + 4) v := by simp
      rw [e1, List.take_set, ht]
  · refine (rdx_of_own len_value hv).keep fun j hj => ⟨⟨by simp [World.setCell]; omega, fun e => ?_, by omega⟩, Below.heap_setCell _ ⟨g, k * 5 + 4, none⟩ _ _ ?_⟩
    · have e' : g = j := by simpa [Value.ownBlock] using e
      omega
    · show j ≠ g
      omega
structure RtdR (T0 : Array Value) (W0 : World) (Bs : Nat) (mb xb : Nat) (b3 n c3 b off n0 c0 k : Nat) (T : List Sg.Value) (d : Array Bool) (t : Array Value) (wc : World) : Prop where
  bel : Below Bs W0 wc
  siz : t.size = 35
  kp : ∀ i, i ∉ ([22, 23, 24, 25, 26, 27, 28, 29, 30, 31, 32, 33] : List Nat) → t[i]? = T0[i]?
  k5 : t[5]? = some (.pointer (some ⟨mb, 0, none⟩))
  k1 : t[1]? = some (.pointer (some ⟨xb, 0, none⟩))
  k6 : t[6]? = some (.int .i64 (k : Nat))
  p0 : dn d 0 → t[22]? = some (.pointer (some ⟨mb, 1, none⟩))
  p1 : dn d 1 → t[23]? = some (.slice (some ⟨b3, 0, none⟩) n c3)
  p2 : dn d 2 → t[24]? = some (.int .i64 (k : Nat))
  p3 : dn d 3 → t[25]? = some (.pointer (some ⟨xb, 1, none⟩))
  p4 : dn d 4 → t[26]? = some (.slice (some ⟨b, off, none⟩) n0 c0)
  p5 : dn d 5 → t[27]? = some (.int .i64 (k : Nat))
  p6 : dn d 6 → t[28]? = some (.int .i64 (k : Nat))
  p7 : dn d 7 → t[29]? = some (.int .i64 ((k : Int) + 1))
  p8 : dn d 8 → t[30]? = some (.slice (some ⟨b, off + k * 5, none⟩) 1 (c0 - k))
  p9 : dn d 9 → ∃ v, t[31]? = some v ∧ wc.ownsRow W0.heap.size 60 4 v T.length (T.flatMap encValue)
  p10 : dn d 10 → t[32]? = some (.pointer (some ⟨b3, k * 5, none⟩))
  p11 : dn d 11 → t[33]? = some (.pointer (some ⟨b3, k * 5 + 4, none⟩))
  l8 : dn d 8 → dn d 4 ∧ dn d 5 ∧ dn d 7
  l9 : dn d 9 → dn d 8
  l10 : dn d 10 → dn d 1 ∧ dn d 2
  l11 : dn d 11 → dn d 10
  l12 : dn d 12 → dn d 9 ∧ dn d 11
  bl : ¬ dn d 12 → Below W0.heap.size W0 wc
  q12 : dn d 12 → ∃ (wp : World) (vT : Value), Below W0.heap.size W0 wp ∧ wp.ownsRow W0.heap.size 60 4 vT T.length (T.flatMap encValue) ∧ wc = wp.setCell ⟨b3, k * 5 + 4, none⟩ vT
def RtdI (T0 : Array Value) (W0 : World) (Bs : Nat) (mb xb : Nat) (b3 n c3 b off n0 c0 k : Nat) (T : List Sg.Value) (d : Array Bool) (a : Act) (wc : World) : Prop := ∃ t : Array Value, a = ⟨t, []⟩ ∧ RtdR T0 W0 Bs mb xb b3 n c3 b off n0 c0 k T d t wc
set_option maxRecDepth 100000 in
set_option maxHeartbeats 8000000 in
theorem r1Tidy_any (v : Value) (l : Sg.SList) (w : World) (hr : RdSL w w.heap.size v l) : Calls Tryz.prog 43 #[v] w (RetListE (Sg.tidyR l) (Sg.checkV l) w) := by
  have HRL := Lib.hid hr
  obtain ⟨⟨u, rfl, hg⟩, hf⟩ := hr
  obtain ⟨A0, c0, rfl⟩ := hg.form
  have HG0 := Lib.hid hg
  have HFS := Lib.hid hf
  obtain ⟨i1, hi1, hz1, hs1', hb1'⟩ := info_parts info_Sign
  obtain ⟨W1, hW1⟩ : ∃ W1, W1 = (w.alloc (.cells #[.int .i64 l.periods, .slice A0 l.signs.length c0] 24)).alloc (.cells #[.int .i64 0, .slice none 0 0] 24) := ⟨_, rfl⟩
  have hb1 : Below w.heap.size w W1 := by rw [hW1]; exact ((Below.refl _ _).alloc (Nat.le_refl _) _).alloc (by simp) _
  have hX : W1.heap[w.heap.size]? = some (.cells #[.int .i64 l.periods, .slice A0 l.signs.length c0] 24 (0, 0)) := by rw [hW1]; exact start_fst w _ _
  have hY : W1.heap[w.heap.size + 1]? = some (.cells #[.int .i64 0, .slice none 0 0] 24 (0, 0)) := by rw [hW1]; exact start_res' w _ _
  have hs1 : w.heap.size + 1 < W1.heap.size := (Array.getElem?_eq_some_iff.1 hY).1
  have x0 : W1.cell? ⟨w.heap.size, 0, none⟩ = some (.int .i64 l.periods) := by simp [World.cell?, hX]
  have x1 : W1.cell? ⟨w.heap.size, 1, none⟩ = some (.slice A0 l.signs.length c0) := by simp [World.cell?, hX]
  have HB1 := Lib.hid hb1
  have HW1 := Lib.hid hW1
  have HX1 := Lib.hid hX
  have HY1 := Lib.hid hY
  have HCK := Lib.hid (r1Check_any _ l W1 (HRL.out.on hb1))
  obtain ⟨e1, he1⟩ : ∃ e1, e1 = Sg.checkV l := ⟨_, rfl⟩
  have HE1 := Lib.hid he1
  rw [← he1] at HCK ⊢
  obtain ⟨res, hres⟩ : ∃ r, r = Sg.tidyR l := ⟨_, rfl⟩
  have HRES := Lib.hid hres
  rw [← hres]
  clear hg hf hW1 hb1 hX hY he1 hres
  go_enter Tryz.func43, Tryz.ntmps43
  go_upto_region 1 with fail
  rw [← HW1.out]
  go_wp2_with fail
  refine HCK.out.mono ?_
  rintro e w2 ⟨rfl, hb2⟩
  have HB2 := Lib.hid (HB1.out.trans (hb2.mono (by omega)))
  have hx2 := (hb2.block w.heap.size (by omega)).trans HX1.out
  have hy2 := (hb2.block (w.heap.size + 1) hs1).trans HY1.out
  have hs2 : w.heap.size + 1 < w2.heap.size := (Array.getElem?_eq_some_iff.1 hy2).1
  have HY2 := Lib.hid hy2
  clear hb2 x0 x1
  by_cases h0 : e1 = 0
  case neg =>
    have HN : Hid (res = Sg.noL) := Lib.hid (by rw [HRES.out]; unfold Sg.tidyR; rw [if_neg (by rw [← HE1.out]; exact h0)])
    have c0' : w2.cell? ⟨w.heap.size + 1, 0, none⟩ = some (.int .i64 0) := by simp [World.cell?, hy2]
    have c1' : w2.cell? ⟨w.heap.size + 1, 1, none⟩ = some (.slice none 0 0) := by simp [World.cell?, hy2]
    have z0' : w2.frozen? ⟨w.heap.size + 1, 0, none⟩ = false := by simp [World.frozen?, hy2]
    have z1' : w2.frozen? ⟨w.heap.size + 1, 1, none⟩ = false := by simp [World.frozen?, hy2]
    clear hx2 hy2
    go_wp2_with fail
    refine bodyPost_ret (v := .tuple #[.agg #[.int .i64 0, .slice none 0 0], .int .i64 e1]) (by simp [results, Tryz.results43, go_sem, c0', c1']) rfl ?_
    exact RetListE.zero HN.out rfl ((HB2.out.setCell (by show w.heap.size ≤ w.heap.size + 1; omega) _).setCell (by show w.heap.size ≤ w.heap.size + 1; omega) _)
  subst h0
  have HCL : Hid (Sg.checkV l = 0) := Lib.hid HE1.out.symm
  have HN : Hid (res = Sg.tidyL l) := Lib.hid (by rw [HRES.out]; unfold Sg.tidyR; rw [if_pos HCL.out])
  have HVF : Hid (∀ s ∈ l.signs, s.values.length ≤ 12 ∧ ∀ x ∈ s.values, 1 ≤ x.lo ∧ x.lo ≤ x.hi ∧ x.hi ≤ 9) := Lib.hid fun s hs => by
    obtain ⟨i, hi⟩ := List.getElem?_of_mem hs
    have hc := Sg.check_sign HCL.out
    have hp := Sg.sign_parts (hc.2.2 i s hi)
    refine ⟨hp.2.2.2.1, fun x hx => ?_⟩
    obtain ⟨j, hj⟩ := List.getElem?_of_mem hx
    have := (Sg.value_at hp.2.2.2.2 hj).2.1
    have := hc.1
    omega
  have hsl := (Sg.check_sign HCL.out).2.1
  have x0 : w2.cell? ⟨w.heap.size, 0, none⟩ = some (.int .i64 l.periods) := by simp [World.cell?, hx2]
  have x1 : w2.cell? ⟨w.heap.size, 1, none⟩ = some (.slice A0 l.signs.length c0) := by simp [World.cell?, hx2]
  have HCO := Lib.hid (r1CopyO_any _ l w2 (HRL.out.on HB2.out) ⟨by omega, fun s hs => by have := (HVF.out s hs).1; omega⟩)
  have HX2 := Lib.hid hx2
  clear hx2 hy2
  go_wp2_with fail
  refine HCO.out.mono ?_
  rintro e w3 ⟨A3, c3, rfl, hog, hb3⟩
  have HB3 := Lib.hid (HB2.out.trans (hb3.mono HB2.out.size))
  have HO3 := Lib.hid hog
  obtain ⟨w4, hw4⟩ : ∃ w4, w4 = w3.alloc (.cells #[.int .i64 l.periods, .slice A3 l.signs.length c3] 24) := ⟨_, rfl⟩
  obtain ⟨mb, hmb⟩ : ∃ mb, mb = w3.heap.size := ⟨_, rfl⟩
  have hb4 : Below w3.heap.size w3 w4 := by rw [hw4]; exact (Below.refl _ _).alloc (Nat.le_refl _) _
  have hm4 : w4.heap[mb]? = some (.cells #[.int .i64 l.periods, .slice A3 l.signs.length c3] 24 (0, 0)) := by rw [hw4, hmb]; exact heap_alloc_new _ _
  obtain ⟨Bs, hBs0⟩ : ∃ B, B = w2.heap.size := ⟨_, rfl⟩
  have hs3 := hb3.size
  have hs4 := hb4.size
  have HX4 := Lib.hid ((hb4.block w.heap.size (by omega)).trans ((hb3.block w.heap.size (by omega)).trans HX2.out))
  have HY4 := Lib.hid ((hb4.block (w.heap.size + 1) (by omega)).trans ((hb3.block (w.heap.size + 1) (by omega)).trans HY2.out))
  have HB4 := Lib.hid (HB3.out.trans (hb4.mono HB3.out.size))
  have HM4 := Lib.hid hm4
  have HO4 := Lib.hid ((HO3.out.kept hb4).mono (show Bs ≤ w2.heap.size + 3 by omega))
  have HW4 := Lib.hid hw4
  have HMB := Lib.hid hmb
  have hBw : w.heap.size + 1 < Bs := by omega
  have hmw : w.heap.size + 1 < mb := by omega
  have hBm : Bs ≤ mb := by omega
  clear hog hb3 hw4 hb4 hm4 hmb hBs0 hs3 hs4 x0 x1
  go_upto_region 5 with fail
  rw [← HW4.out, ← HMB.out]
  go_wp2_with fail
  go_loopg [6] l.signs.length (fun g i wr => ∃ k : Nat, k ≤ l.signs.length ∧ g = l.signs.length - k ∧ i = .int .i64 (k : Nat) ∧ Below w.heap.size w wr ∧ wr.heap[w.heap.size]? = some (.cells #[.int .i64 l.periods, .slice A0 l.signs.length c0] 24 (0, 0)) ∧ wr.heap[w.heap.size + 1]? = some (.cells #[.int .i64 0, .slice none 0 0] 24 (0, 0)) ∧ wr.heap[mb]? = some (.cells #[.int .i64 l.periods, .slice A3 l.signs.length c3] 24 (0, 0)) ∧ OwnG KSign 67 wr Bs (.slice A3 l.signs.length c3) ((l.signs.take k).map Sg.tidyS ++ l.signs.drop k))
  case atStart => exact ⟨0, Nat.zero_le _, rfl, rfl, HB4.out, HX4.out, HY4.out, HM4.out, by simpa using HO4.out⟩
  case round =>
    obtain ⟨k, hk, rfl, rfl, hbel, hx, hy, hm, hown⟩ := hrel
    have HBW := Lib.hid hbel
    have HX := Lib.hid hx
    have HY := Lib.hid hy
    have HM := Lib.hid hm
    have HOK := Lib.hid hown
    have x1 : wr.cell? ⟨w.heap.size, 1, none⟩ = some (.slice A0 l.signs.length c0) := by simp [World.cell?, hx]
    have m1 : wr.cell? ⟨mb, 1, none⟩ = some (.slice A3 l.signs.length c3) := by simp [World.cell?, hm]
    have hmbl : mb < wr.heap.size := (Array.getElem?_eq_some_iff.1 hm).1
    have hxl : w.heap.size + 1 < wr.heap.size := by omega
    clear hbel hx hy hm hown
    by_cases hlt : k < l.signs.length
    · obtain ⟨b, off, rfl, hb, hcell⟩ := HG0.out.five (by omega)
      obtain ⟨s, hs⟩ : ∃ s, l.signs[k]? = some s := ⟨_, List.getElem?_eq_getElem hlt⟩
      obtain ⟨b3, rfl⟩ : ∃ b3, A3 = some ⟨b3, 0, none⟩ := by
        obtain ⟨cells, ho, -⟩ := HOK.out
        rcases ho.2 with ⟨-, e⟩ | ⟨g, cap, cur, e, -⟩
        · simp at e; omega
        · injection e with e1
          exact ⟨g, e1⟩
      have hb3 := HOK.out.lt b3 rfl
      have hB3 : Bs ≤ b3 := hb3.1
      have hg3 : b3 < wr.heap.size := hb3.2
      have hBs : Bs ≤ wr.heap.size := by omega
      obtain ⟨T, hT⟩ : ∃ T, T = Sg.tidiedV s.values := ⟨_, rfl⟩
      have HT := Lib.hid hT
      have hvl := HVF.out s (List.mem_of_getElem? hs)
      have HTD : Hid (∀ W, Below wr.heap.size wr W → Calls Tryz.prog 85 #[.slice (some ⟨b, off + k * 5, none⟩) 1 (c0 - k)] W (RetVals T W)) := Lib.hid fun W hW => by
        have hv1 : Sg.valsS [s] = s.values := by simp [Sg.valsS]
        have h1 := r1tidied_any (.slice (some ⟨b, off + k * 5, none⟩) 1 (c0 - k)) [s] W ((rdg_one HG0.out hs).keep fun j hj => ⟨Nat.lt_of_lt_of_le hj (Nat.le_trans HBW.out.size hW.size), ((HBW.out.trans (hW.mono HBW.out.size)).block j hj)⟩) (by simp) (fun t ht => by
          rw [List.mem_singleton] at ht
          subst ht
          exact hvl)
        rwa [hv1, ← hT] at h1
      have hln : ((l.signs.take k).map Sg.tidyS ++ l.signs.drop k).length = l.signs.length := by simp; omega
      have CM : Hid (∀ W, Below wr.heap.size wr W → W.cell? ⟨mb, 1, none⟩ = some (.slice (some ⟨b3, 0, none⟩) l.signs.length c3) ∧ W.cell? ⟨w.heap.size, 1, none⟩ = some (.slice (some ⟨b, off, none⟩) l.signs.length c0) ∧ W.frozen? ⟨b3, k * 5 + 4, none⟩ = false) := Lib.hid fun W hW => by
        refine ⟨(hW.cell (p := ⟨mb, 1, none⟩) hmbl).trans m1, (hW.cell (p := ⟨w.heap.size, 1, none⟩) (show w.heap.size < _ by omega)).trans x1, ?_⟩
        obtain ⟨cells, ho, -⟩ := HOK.out
        rw [hln] at ho
        exact own_free (keep_own ho hW) _
      have CU : Hid (∀ W, Below wr.heap.size wr W → (∃ u, W.cell? ⟨b3, k * 5 + 4, none⟩ = some u) ∧ True) := Lib.hid fun W hW => by
        obtain ⟨cells, ho, -⟩ := HOK.out
        rw [hln] at ho
        have h1 := keep_own ho hW
        have h2 := h1.1
        have h3 := h1.cells rfl (k * 5 + 4) _ (List.getElem?_eq_getElem (by rw [h2]; show k * 5 + 4 < _ * 5; omega))
        rw [addr_add, Nat.zero_add] at h3
        exact ⟨⟨_, h3⟩, trivial⟩
      have hkI : (0 : Int) ≤ (k : Int) := by omega
      have hkJ : (k : Int) < (l.signs.length : Int) := by omega
      have hcl0 : l.signs.length ≤ c0 := by
        obtain ⟨A', c', e, h1, -⟩ := HG0.out
        cases e
        exact h1
      have hq1 : (k : Int) + 1 ≤ (c0 : Int) := by omega
      have hq0 : (0 : Int) ≤ (k : Int) + 1 := by omega
      have hck : ¬ c0 = k := by omega
      have HS := Lib.hid hs
      clear hcell hs hT hvl hb3
      go_upto_region 8 with fail
      clear x1 m1
      refine wp_region_inv2T (fun T0 => RtdI T0 wr Bs mb w.heap.size b3 l.signs.length c3 b off l.signs.length c0 k T) (by kernel_rfl) (by kernel_rfl) ?g0a ?gstepa ?genda
      case g0a =>
        have hno : ∀ j, ¬ dn (Array.replicate 13 false) j := by
          intro j; unfold dn; by_cases hj : j < 13 <;> simp [Array.getD, hj]
        have na : ∀ {j : Nat} {Z : Prop}, dn (Array.replicate 13 false) j → Z := fun hj => absurd hj (hno _)
        exact ⟨_, rfl, { bel := (Below.refl _ _).drew, siz := rfl, kp := fun _ _ => rfl, k5 := rfl, k1 := rfl, k6 := rfl, p0 := na, p1 := na, p2 := na, p3 := na, p4 := na, p5 := na, p6 := na, p7 := na, p8 := na, p9 := fun hj => absurd hj (hno _), p10 := na, p11 := na, l8 := fun hj => absurd hj (hno _), l9 := fun hj => absurd hj (hno _), l10 := fun hj => absurd hj (hno _), l11 := fun hj => absurd hj (hno _), l12 := fun hj => absurd hj (hno _), bl := fun _ => (Below.refl _ _).drew, q12 := fun hj => absurd hj (hno _) }⟩
      case gstepa =>
        intro T0 d a wc i hd hI hi
        obtain ⟨hlt, hnd, hpre⟩ := mem_ready hi
        have hd' : d.size = 13 := hd
        have hin : i < 13 := hlt
        clear hi hd hlt
        obtain ⟨t, rfl, h⟩ := hI
        have hcs : i = 0 ∨ i = 1 ∨ i = 2 ∨ i = 3 ∨ i = 4 ∨ i = 5 ∨ i = 6 ∨ i = 7 ∨ i = 8 ∨ i = 9 ∨ i = 10 ∨ i = 11 ∨ i = 12 := by omega
        rcases hcs with rfl | rfl | rfl | rfl | rfl | rfl | rfl | rfl | rfl | rfl | rfl | rfl | rfl
        · have hi : 0 < d.size := by omega
          have q5 := h.k5
          refine wpOp_plain rfl rfl ?_
          go_simp
          exact ⟨_, rfl, { bel := h.bel, siz := (by simpa using h.siz), kp := rk h.kp, k5 := rs h.k5, k1 := rs h.k1, k6 := rs h.k6, l8 := fun hj => (fun q => ⟨dn_up q.1, dn_up q.2.1, dn_up q.2.2⟩) (h.l8 (dn_of hi hj (by decide))), l9 := fun hj => dn_up (h.l9 (dn_of hi hj (by decide))), l10 := fun hj => (fun q => ⟨dn_up q.1, dn_up q.2⟩) (h.l10 (dn_of hi hj (by decide))), l11 := fun hj => dn_up (h.l11 (dn_of hi hj (by decide))), l12 := fun hj => (fun q => ⟨dn_up q.1, dn_up q.2⟩) (h.l12 (dn_of hi hj (by decide))), bl := fun hk => h.bl (fun q => hk (dn_up q)), q12 := fun hj => h.q12 (dn_of hi hj (by decide)), p0 := fun _ => set_same (by have := h.siz; omega), p1 := rp hi h.p1, p2 := rp hi h.p2, p3 := rp hi h.p3, p4 := rp hi h.p4, p5 := rp hi h.p5, p6 := rp hi h.p6, p7 := rp hi h.p7, p8 := rp hi h.p8, p9 := rc hi h.p9 (fun v h2 => keep_own h2 (Below.refl _ _)), p10 := rp hi h.p10, p11 := rp hi h.p11 }⟩
        · have hi : 1 < d.size := by omega
          have e0 := h.p0 (hpre _ rfl ⟨0, .data⟩ (by simp) rfl)
          have hns : ¬ dn d 12 := fun q => not_dn hi hnd ((h.l10 (h.l11 (h.l12 q).2)).1)
          obtain ⟨m0, n0, z0⟩ := CM.out wc (h.bl hns)
          refine wpOp_plain rfl rfl ?_
          go_simp
          exact ⟨_, rfl, { bel := h.bel, siz := (by simpa using h.siz), kp := rk h.kp, k5 := rs h.k5, k1 := rs h.k1, k6 := rs h.k6, l8 := fun hj => (fun q => ⟨dn_up q.1, dn_up q.2.1, dn_up q.2.2⟩) (h.l8 (dn_of hi hj (by decide))), l9 := fun hj => dn_up (h.l9 (dn_of hi hj (by decide))), l10 := fun hj => absurd (h.l10 (dn_of hi hj (by decide))).1 (not_dn hi hnd), l11 := fun hj => dn_up (h.l11 (dn_of hi hj (by decide))), l12 := fun hj => (fun q => ⟨dn_up q.1, dn_up q.2⟩) (h.l12 (dn_of hi hj (by decide))), bl := fun hk => h.bl (fun q => hk (dn_up q)), q12 := fun hj => h.q12 (dn_of hi hj (by decide)), p0 := rp hi h.p0, p1 := fun _ => set_same (by have := h.siz; omega), p2 := rp hi h.p2, p3 := rp hi h.p3, p4 := rp hi h.p4, p5 := rp hi h.p5, p6 := rp hi h.p6, p7 := rp hi h.p7, p8 := rp hi h.p8, p9 := rc hi h.p9 (fun v h2 => keep_own h2 (Below.refl _ _)), p10 := rp hi h.p10, p11 := rp hi h.p11 }⟩
        · have hi : 2 < d.size := by omega
          have q6 := h.k6
          refine wpOp_plain rfl rfl ?_
          go_simp
          exact ⟨_, rfl, { bel := h.bel, siz := (by simpa using h.siz), kp := rk h.kp, k5 := rs h.k5, k1 := rs h.k1, k6 := rs h.k6, l8 := fun hj => (fun q => ⟨dn_up q.1, dn_up q.2.1, dn_up q.2.2⟩) (h.l8 (dn_of hi hj (by decide))), l9 := fun hj => dn_up (h.l9 (dn_of hi hj (by decide))), l10 := fun hj => absurd (h.l10 (dn_of hi hj (by decide))).2 (not_dn hi hnd), l11 := fun hj => dn_up (h.l11 (dn_of hi hj (by decide))), l12 := fun hj => (fun q => ⟨dn_up q.1, dn_up q.2⟩) (h.l12 (dn_of hi hj (by decide))), bl := fun hk => h.bl (fun q => hk (dn_up q)), q12 := fun hj => h.q12 (dn_of hi hj (by decide)), p0 := rp hi h.p0, p1 := rp hi h.p1, p2 := fun _ => set_same (by have := h.siz; omega), p3 := rp hi h.p3, p4 := rp hi h.p4, p5 := rp hi h.p5, p6 := rp hi h.p6, p7 := rp hi h.p7, p8 := rp hi h.p8, p9 := rc hi h.p9 (fun v h2 => keep_own h2 (Below.refl _ _)), p10 := rp hi h.p10, p11 := rp hi h.p11 }⟩
        · have hi : 3 < d.size := by omega
          have q1 := h.k1
          refine wpOp_plain rfl rfl ?_
          go_simp
          exact ⟨_, rfl, { bel := h.bel, siz := (by simpa using h.siz), kp := rk h.kp, k5 := rs h.k5, k1 := rs h.k1, k6 := rs h.k6, l8 := fun hj => (fun q => ⟨dn_up q.1, dn_up q.2.1, dn_up q.2.2⟩) (h.l8 (dn_of hi hj (by decide))), l9 := fun hj => dn_up (h.l9 (dn_of hi hj (by decide))), l10 := fun hj => (fun q => ⟨dn_up q.1, dn_up q.2⟩) (h.l10 (dn_of hi hj (by decide))), l11 := fun hj => dn_up (h.l11 (dn_of hi hj (by decide))), l12 := fun hj => (fun q => ⟨dn_up q.1, dn_up q.2⟩) (h.l12 (dn_of hi hj (by decide))), bl := fun hk => h.bl (fun q => hk (dn_up q)), q12 := fun hj => h.q12 (dn_of hi hj (by decide)), p0 := rp hi h.p0, p1 := rp hi h.p1, p2 := rp hi h.p2, p3 := fun _ => set_same (by have := h.siz; omega), p4 := rp hi h.p4, p5 := rp hi h.p5, p6 := rp hi h.p6, p7 := rp hi h.p7, p8 := rp hi h.p8, p9 := rc hi h.p9 (fun v h2 => keep_own h2 (Below.refl _ _)), p10 := rp hi h.p10, p11 := rp hi h.p11 }⟩
        · have hi : 4 < d.size := by omega
          have e3 := h.p3 (hpre _ rfl ⟨3, .data⟩ (by simp) rfl)
          have hns : ¬ dn d 12 := fun q => not_dn hi hnd ((h.l8 (h.l9 (h.l12 q).1)).1)
          obtain ⟨m0, n0, z0⟩ := CM.out wc (h.bl hns)
          refine wpOp_plain rfl rfl ?_
          go_simp
          exact ⟨_, rfl, { bel := h.bel, siz := (by simpa using h.siz), kp := rk h.kp, k5 := rs h.k5, k1 := rs h.k1, k6 := rs h.k6, l8 := fun hj => absurd (h.l8 (dn_of hi hj (by decide))).1 (not_dn hi hnd), l9 := fun hj => dn_up (h.l9 (dn_of hi hj (by decide))), l10 := fun hj => (fun q => ⟨dn_up q.1, dn_up q.2⟩) (h.l10 (dn_of hi hj (by decide))), l11 := fun hj => dn_up (h.l11 (dn_of hi hj (by decide))), l12 := fun hj => (fun q => ⟨dn_up q.1, dn_up q.2⟩) (h.l12 (dn_of hi hj (by decide))), bl := fun hk => h.bl (fun q => hk (dn_up q)), q12 := fun hj => h.q12 (dn_of hi hj (by decide)), p0 := rp hi h.p0, p1 := rp hi h.p1, p2 := rp hi h.p2, p3 := rp hi h.p3, p4 := fun _ => set_same (by have := h.siz; omega), p5 := rp hi h.p5, p6 := rp hi h.p6, p7 := rp hi h.p7, p8 := rp hi h.p8, p9 := rc hi h.p9 (fun v h2 => keep_own h2 (Below.refl _ _)), p10 := rp hi h.p10, p11 := rp hi h.p11 }⟩
        · have hi : 5 < d.size := by omega
          have q6 := h.k6
          refine wpOp_plain rfl rfl ?_
          go_simp
          exact ⟨_, rfl, { bel := h.bel, siz := (by simpa using h.siz), kp := rk h.kp, k5 := rs h.k5, k1 := rs h.k1, k6 := rs h.k6, l8 := fun hj => absurd (h.l8 (dn_of hi hj (by decide))).2.1 (not_dn hi hnd), l9 := fun hj => dn_up (h.l9 (dn_of hi hj (by decide))), l10 := fun hj => (fun q => ⟨dn_up q.1, dn_up q.2⟩) (h.l10 (dn_of hi hj (by decide))), l11 := fun hj => dn_up (h.l11 (dn_of hi hj (by decide))), l12 := fun hj => (fun q => ⟨dn_up q.1, dn_up q.2⟩) (h.l12 (dn_of hi hj (by decide))), bl := fun hk => h.bl (fun q => hk (dn_up q)), q12 := fun hj => h.q12 (dn_of hi hj (by decide)), p0 := rp hi h.p0, p1 := rp hi h.p1, p2 := rp hi h.p2, p3 := rp hi h.p3, p4 := rp hi h.p4, p5 := fun _ => set_same (by have := h.siz; omega), p6 := rp hi h.p6, p7 := rp hi h.p7, p8 := rp hi h.p8, p9 := rc hi h.p9 (fun v h2 => keep_own h2 (Below.refl _ _)), p10 := rp hi h.p10, p11 := rp hi h.p11 }⟩
        · have hi : 6 < d.size := by omega
          have q6 := h.k6
          refine wpOp_plain rfl rfl ?_
          go_simp
          exact ⟨_, rfl, { bel := h.bel, siz := (by simpa using h.siz), kp := rk h.kp, k5 := rs h.k5, k1 := rs h.k1, k6 := rs h.k6, l8 := fun hj => (fun q => ⟨dn_up q.1, dn_up q.2.1, dn_up q.2.2⟩) (h.l8 (dn_of hi hj (by decide))), l9 := fun hj => dn_up (h.l9 (dn_of hi hj (by decide))), l10 := fun hj => (fun q => ⟨dn_up q.1, dn_up q.2⟩) (h.l10 (dn_of hi hj (by decide))), l11 := fun hj => dn_up (h.l11 (dn_of hi hj (by decide))), l12 := fun hj => (fun q => ⟨dn_up q.1, dn_up q.2⟩) (h.l12 (dn_of hi hj (by decide))), bl := fun hk => h.bl (fun q => hk (dn_up q)), q12 := fun hj => h.q12 (dn_of hi hj (by decide)), p0 := rp hi h.p0, p1 := rp hi h.p1, p2 := rp hi h.p2, p3 := rp hi h.p3, p4 := rp hi h.p4, p5 := rp hi h.p5, p6 := fun _ => set_same (by have := h.siz; omega), p7 := rp hi h.p7, p8 := rp hi h.p8, p9 := rc hi h.p9 (fun v h2 => keep_own h2 (Below.refl _ _)), p10 := rp hi h.p10, p11 := rp hi h.p11 }⟩
        · have hi : 7 < d.size := by omega
          have e6 := h.p6 (hpre _ rfl ⟨6, .data⟩ (by simp) rfl)
          refine wpOp_plain rfl rfl ?_
          go_simp
          try simp (disch := omega) only [IntWalk.i64_in]
          exact ⟨_, rfl, { bel := h.bel, siz := (by simpa using h.siz), kp := rk h.kp, k5 := rs h.k5, k1 := rs h.k1, k6 := rs h.k6, l8 := fun hj => absurd (h.l8 (dn_of hi hj (by decide))).2.2 (not_dn hi hnd), l9 := fun hj => dn_up (h.l9 (dn_of hi hj (by decide))), l10 := fun hj => (fun q => ⟨dn_up q.1, dn_up q.2⟩) (h.l10 (dn_of hi hj (by decide))), l11 := fun hj => dn_up (h.l11 (dn_of hi hj (by decide))), l12 := fun hj => (fun q => ⟨dn_up q.1, dn_up q.2⟩) (h.l12 (dn_of hi hj (by decide))), bl := fun hk => h.bl (fun q => hk (dn_up q)), q12 := fun hj => h.q12 (dn_of hi hj (by decide)), p0 := rp hi h.p0, p1 := rp hi h.p1, p2 := rp hi h.p2, p3 := rp hi h.p3, p4 := rp hi h.p4, p5 := rp hi h.p5, p6 := rp hi h.p6, p7 := fun _ => set_same (by have := h.siz; omega), p8 := rp hi h.p8, p9 := rc hi h.p9 (fun v h2 => keep_own h2 (Below.refl _ _)), p10 := rp hi h.p10, p11 := rp hi h.p11 }⟩
        · have hi : 8 < d.size := by omega
          have e4 := h.p4 (hpre _ rfl ⟨4, .data⟩ (by simp) rfl)
          have e5 := h.p5 (hpre _ rfl ⟨5, .data⟩ (by simp) rfl)
          have e7 := h.p7 (hpre _ rfl ⟨7, .data⟩ (by simp) rfl)
          refine wpOp_plain rfl rfl ?_
          go_simp
          try simp
          exact ⟨_, rfl, { bel := h.bel, siz := (by simpa using h.siz), kp := rk h.kp, k5 := rs h.k5, k1 := rs h.k1, k6 := rs h.k6, l8 := fun _ => ⟨dn_up (hpre _ rfl ⟨4, .data⟩ (by simp) rfl), dn_up (hpre _ rfl ⟨5, .data⟩ (by simp) rfl), dn_up (hpre _ rfl ⟨7, .data⟩ (by simp) rfl)⟩, l9 := fun hj => absurd (h.l9 (dn_of hi hj (by decide))) (not_dn hi hnd), l10 := fun hj => (fun q => ⟨dn_up q.1, dn_up q.2⟩) (h.l10 (dn_of hi hj (by decide))), l11 := fun hj => dn_up (h.l11 (dn_of hi hj (by decide))), l12 := fun hj => (fun q => ⟨dn_up q.1, dn_up q.2⟩) (h.l12 (dn_of hi hj (by decide))), bl := fun hk => h.bl (fun q => hk (dn_up q)), q12 := fun hj => h.q12 (dn_of hi hj (by decide)), p0 := rp hi h.p0, p1 := rp hi h.p1, p2 := rp hi h.p2, p3 := rp hi h.p3, p4 := rp hi h.p4, p5 := rp hi h.p5, p6 := rp hi h.p6, p7 := rp hi h.p7, p8 := fun _ => set_same (by have := h.siz; omega), p9 := rc hi h.p9 (fun v h2 => keep_own h2 (Below.refl _ _)), p10 := rp hi h.p10, p11 := rp hi h.p11 }⟩
        · have hi : 9 < d.size := by omega
          have hns : ¬ dn d 12 := fun q => not_dn hi hnd (h.l12 q).1
          have e8 := h.p8 (hpre _ rfl ⟨8, .data⟩ (by simp) rfl)
          refine wpOp_plain rfl rfl ?_
          go_simp
          refine (HTD.out wc (h.bl hns)).mono ?_
          rintro e1 w1 ⟨y1, rfl, hq1, hb⟩
          exact ⟨_, rfl, { bel := h.bel.trans (hb.mono (Nat.le_trans hBs h.bel.size)), siz := (by simpa using h.siz), kp := rk h.kp, k5 := rs h.k5, k1 := rs h.k1, k6 := rs h.k6, l8 := fun hj => (fun q => ⟨dn_up q.1, dn_up q.2.1, dn_up q.2.2⟩) (h.l8 (dn_of hi hj (by decide))), l9 := fun _ => dn_up (hpre _ rfl ⟨8, .data⟩ (by simp) rfl), l10 := fun hj => (fun q => ⟨dn_up q.1, dn_up q.2⟩) (h.l10 (dn_of hi hj (by decide))), l11 := fun hj => dn_up (h.l11 (dn_of hi hj (by decide))), l12 := fun hj => absurd (h.l12 (dn_of hi hj (by decide))).1 (not_dn hi hnd), bl := fun _ => (h.bl hns).trans (hb.mono (h.bl hns).size), q12 := fun hj => absurd (dn_of hi hj (by decide)) hns, p0 := rp hi h.p0, p1 := rp hi h.p1, p2 := rp hi h.p2, p3 := rp hi h.p3, p4 := rp hi h.p4, p5 := rp hi h.p5, p6 := rp hi h.p6, p7 := rp hi h.p7, p8 := rp hi h.p8, p9 := fun _ => ⟨_, set_same (by have := h.siz; omega), hq1.mono (h.bl hns).size⟩, p10 := rp hi h.p10, p11 := rp hi h.p11 }⟩
        · have hi : 10 < d.size := by omega
          have e1 := h.p1 (hpre _ rfl ⟨1, .data⟩ (by simp) rfl)
          have e2 := h.p2 (hpre _ rfl ⟨2, .data⟩ (by simp) rfl)
          refine wpOp_plain rfl rfl ?_
          go_simp
          exact ⟨_, rfl, { bel := h.bel, siz := (by simpa using h.siz), kp := rk h.kp, k5 := rs h.k5, k1 := rs h.k1, k6 := rs h.k6, l8 := fun hj => (fun q => ⟨dn_up q.1, dn_up q.2.1, dn_up q.2.2⟩) (h.l8 (dn_of hi hj (by decide))), l9 := fun hj => dn_up (h.l9 (dn_of hi hj (by decide))), l10 := fun _ => ⟨dn_up (hpre _ rfl ⟨1, .data⟩ (by simp) rfl), dn_up (hpre _ rfl ⟨2, .data⟩ (by simp) rfl)⟩, l11 := fun hj => absurd (h.l11 (dn_of hi hj (by decide))) (not_dn hi hnd), l12 := fun hj => (fun q => ⟨dn_up q.1, dn_up q.2⟩) (h.l12 (dn_of hi hj (by decide))), bl := fun hk => h.bl (fun q => hk (dn_up q)), q12 := fun hj => h.q12 (dn_of hi hj (by decide)), p0 := rp hi h.p0, p1 := rp hi h.p1, p2 := rp hi h.p2, p3 := rp hi h.p3, p4 := rp hi h.p4, p5 := rp hi h.p5, p6 := rp hi h.p6, p7 := rp hi h.p7, p8 := rp hi h.p8, p9 := rc hi h.p9 (fun v h2 => keep_own h2 (Below.refl _ _)), p10 := fun _ => set_same (by have := h.siz; omega), p11 := rp hi h.p11 }⟩
        · have hi : 11 < d.size := by omega
          have e10 := h.p10 (hpre _ rfl ⟨10, .data⟩ (by simp) rfl)
          refine wpOp_plain rfl rfl ?_
          go_simp
          exact ⟨_, rfl, { bel := h.bel, siz := (by simpa using h.siz), kp := rk h.kp, k5 := rs h.k5, k1 := rs h.k1, k6 := rs h.k6, l8 := fun hj => (fun q => ⟨dn_up q.1, dn_up q.2.1, dn_up q.2.2⟩) (h.l8 (dn_of hi hj (by decide))), l9 := fun hj => dn_up (h.l9 (dn_of hi hj (by decide))), l10 := fun hj => (fun q => ⟨dn_up q.1, dn_up q.2⟩) (h.l10 (dn_of hi hj (by decide))), l11 := fun _ => dn_up (hpre _ rfl ⟨10, .data⟩ (by simp) rfl), l12 := fun hj => absurd (h.l12 (dn_of hi hj (by decide))).2 (not_dn hi hnd), bl := fun hk => h.bl (fun q => hk (dn_up q)), q12 := fun hj => h.q12 (dn_of hi hj (by decide)), p0 := rp hi h.p0, p1 := rp hi h.p1, p2 := rp hi h.p2, p3 := rp hi h.p3, p4 := rp hi h.p4, p5 := rp hi h.p5, p6 := rp hi h.p6, p7 := rp hi h.p7, p8 := rp hi h.p8, p9 := rc hi h.p9 (fun v h2 => keep_own h2 (Below.refl _ _)), p10 := rp hi h.p10, p11 := fun _ => set_same (by have := h.siz; omega) }⟩
        · have hi : 12 < d.size := by omega
          obtain ⟨v9, e9, r9⟩ := h.p9 (hpre _ rfl ⟨9, .data⟩ (by simp) rfl)
          have e11 := h.p11 (hpre _ rfl ⟨11, .data⟩ (by simp) rfl)
          have hns : ¬ dn d 12 := not_dn hi hnd
          obtain ⟨m0, n0, z0⟩ := CM.out wc (h.bl hns)
          obtain ⟨A9, c9, rfl⟩ := own_form r9
          obtain ⟨⟨u, u0⟩, -⟩ := CU.out wc (h.bl hns)
          refine wpOp_plain rfl rfl ?_
          go_simp
          exact ⟨_, rfl, { bel := h.bel.setCell (p := ⟨b3, k * 5 + 4, none⟩) hB3 _, siz := h.siz, kp := h.kp, k5 := h.k5, k1 := h.k1, k6 := h.k6, l8 := fun hj => (fun q => ⟨dn_up q.1, dn_up q.2.1, dn_up q.2.2⟩) (h.l8 (dn_of hi hj (by decide))), l9 := fun hj => dn_up (h.l9 (dn_of hi hj (by decide))), l10 := fun hj => (fun q => ⟨dn_up q.1, dn_up q.2⟩) (h.l10 (dn_of hi hj (by decide))), l11 := fun hj => dn_up (h.l11 (dn_of hi hj (by decide))), l12 := fun _ => ⟨dn_up (hpre _ rfl ⟨9, .data⟩ (by simp) rfl), dn_up (hpre _ rfl ⟨11, .data⟩ (by simp) rfl)⟩, bl := fun hk => absurd (dn_self hi) hk, q12 := fun _ => ⟨wc, _, h.bl hns, r9, rfl⟩, p0 := rn hi h.p0, p1 := rn hi h.p1, p2 := rn hi h.p2, p3 := rn hi h.p3, p4 := rn hi h.p4, p5 := rn hi h.p5, p6 := rn hi h.p6, p7 := rn hi h.p7, p8 := rn hi h.p8, p9 := fun _ => ⟨_, e9, own_side r9 hg3 _⟩, p10 := rn hi h.p10, p11 := rn hi h.p11 }⟩
      case genda =>
        intro d a wc hd hI hall
        obtain ⟨t, rfl, h⟩ := hI
        have hdn : ∀ j, j < 13 → dn d j := fun j hj => dn_all hd hall hj
        have hd : ∀ j, (_ : j < 13 := by decide) → dn d j := fun j hj => hdn j hj
        obtain ⟨v9, e9, r9⟩ := h.p9 (hd 9)
        obtain ⟨wp, vT, hbp, hop, rfl⟩ := h.q12 (hdn 12 (by omega))
        have hfe := frame_eq [(22, _), (23, _), (24, _), (25, _), (26, _), (27, _), (28, _), (29, _), (30, _), (31, v9), (32, _), (33, _)] (h.siz.trans rfl) h.kp rfl ⟨h.p0 (hd 0), h.p1 (hd 1), h.p2 (hd 2), h.p3 (hd 3), h.p4 (hd 4), h.p5 (hd 5), h.p6 (hd 6), h.p7 (hd 7), h.p8 (hd 8), e9, h.p10 (hd 10), h.p11 (hd 11), trivial⟩
        simp only [List.foldl_cons, List.foldl_nil, List.setIfInBounds_toArray, List.set_cons_succ, List.set_cons_zero] at hfe
        have hbc := h.bel
        subst hfe
        clear h hdn hd hall
        have hobl : b3 < wp.heap.size := Nat.lt_of_lt_of_le hg3 hbp.size
        have HOG := Lib.hid (ownG_set (HOK.out.kept hbp) (show ((l.signs.take k).map Sg.tidyS ++ l.signs.drop k)[k]? = some s by
          rw [List.getElem?_append_right (by simp; omega)]
          simp only [List.length_map, List.length_take]
          rw [Nat.min_eq_left hk, Nat.sub_self, List.getElem?_drop, Nat.add_zero]; exact HS.out) hop hg3 hBs)
        have hset : ((l.signs.take k).map Sg.tidyS ++ l.signs.drop k).set k (⟨s.code, s.wide, s.high, s.even, T⟩ : Sg.Sign) = (l.signs.take (k + 1)).map Sg.tidyS ++ l.signs.drop (k + 1) := by
          have hl : ((l.signs.take k).map Sg.tidyS).length = k := by rw [List.length_map, List.length_take]; omega
          rw [List.set_append_right _ _ (by omega), hl, Nat.sub_self, List.drop_eq_getElem_cons hlt, List.set_cons_zero, List.take_add_one, HS.out, HT.out]
          simp [Sg.tidyS]
        rw [hset] at HOG
        have HBE : Hid (Below w.heap.size w (wp.setCell ⟨b3, k * 5 + 4, none⟩ vT)) := Lib.hid ((HBW.out.trans (hbp.mono HBW.out.size)).setCell (by show w.heap.size ≤ b3; omega) _)
        have KH : ∀ j, j < wr.heap.size → j ≠ b3 → (wp.setCell ⟨b3, k * 5 + 4, none⟩ vT).heap[j]? = wr.heap[j]? := fun j hj hne => (Below.heap_setCell _ ⟨b3, k * 5 + 4, none⟩ _ _ hne).trans (hbp.block j hj)
        have hnb : mb ≠ b3 := fun e => by
          obtain ⟨cells, ho, -⟩ := HOK.out
          rw [hln] at ho
          rcases ho.2 with ⟨e', -⟩ | ⟨g, cap, cur, e', -, hh, -⟩
          · cases e'
          · cases e'
            have := HM.out
            rw [e, hh] at this
            injection this with this
            injection this with _ h2
            exact absurd h2 (by decide)
        have HXE := Lib.hid ((KH w.heap.size (by omega) (by omega)).trans HX.out)
        have HYE := Lib.hid ((KH (w.heap.size + 1) hxl (by omega)).trans HY.out)
        have HME := Lib.hid ((KH mb hmbl hnb).trans HM.out)
        obtain ⟨wE, hwE⟩ : ∃ W, W = wp.setCell ⟨b3, k * 5 + 4, none⟩ vT := ⟨_, rfl⟩
        rw [← hwE] at HOG HBE HXE HYE HME ⊢
        clear hwE hbp hop KH hset hbc e9 r9
        go_wp2_with fail
        go_roundg (l.signs.length - (k + 1))
        case measure => omega
        case rel => exact ⟨k + 1, by omega, rfl, by go_num, HBE.out, HXE.out, HYE.out, HME.out, HOG.out⟩
    · have hkl : k = l.signs.length := by omega
      have hkJ : ¬ (k : Int) < (l.signs.length : Int) := by omega
      have HRG : Hid (RdG KSign wr (fun b => b < wr.heap.size ∧ Bs ≤ b) (.slice A3 l.signs.length c3) (l.signs.map Sg.tidyS)) := Lib.hid (by
        have := HOK.out.rd
        rw [hkl, List.take_length, List.drop_length, List.append_nil] at this
        exact this)
      have hz := HM.out
      have hy := HY.out
      have m0 : wr.cell? ⟨mb, 0, none⟩ = some (.int .i64 l.periods) := by simp [World.cell?, hz]
      have n0 : wr.cell? ⟨w.heap.size + 1, 0, none⟩ = some (.int .i64 0) := by simp [World.cell?, hy]
      have n1 : wr.cell? ⟨w.heap.size + 1, 1, none⟩ = some (.slice none 0 0) := by simp [World.cell?, hy]
      have y0 : wr.frozen? ⟨w.heap.size + 1, 0, none⟩ = false := by simp [World.frozen?, hy]
      have y1 : wr.frozen? ⟨w.heap.size + 1, 1, none⟩ = false := by simp [World.frozen?, hy]
      clear hz hy hkl
      go_wp2_with fail
      refine bodyPost_ret (v := .tuple #[.agg #[.int .i64 l.periods, .slice A3 l.signs.length c3], .int .i64 0]) (by simp [results, Tryz.results43, go_sem, n0, n1]) rfl ?_
      refine ⟨_, rfl, ?_, (HBW.out.setCell (by show w.heap.size ≤ w.heap.size + 1; omega) _).setCell (by show w.heap.size ≤ w.heap.size + 1; omega) _⟩
      rw [HN.out]
      refine ⟨⟨_, rfl, HRG.out.keep fun j hj => ⟨by simp [World.setCell]; omega, ?_⟩⟩, fun s hs => ?_⟩
      · rw [Below.heap_setCell _ ⟨w.heap.size + 1, 1, none⟩ _ _ (by show j ≠ w.heap.size + 1; omega), Below.heap_setCell _ ⟨w.heap.size + 1, 0, none⟩ _ _ (by show j ≠ w.heap.size + 1; omega)]
      · obtain ⟨u, hu, rfl⟩ := List.mem_map.1 hs
        exact Sg.tidyS_fits (HFS.out u hu)
end Go.Proofs.YtkmimjngmfdpmaaGreatDoor
