/- signs.Restrict. Made by gen_grestrict.py. ostraconref01.Restrict. Made by gen_r1restrict.py. SignsTidies: the law's walk. Made by gen_sglaw12.py. -/
import Derived.Test.YtkmimjngmfdpmaaGreatDoorMkSgGTidy
import Derived.Test.YtkmimjngmfdpmaaGreatDoorMkSgRTidy
import Derived.Test.YtkmimjngmfdpmaaGreatDoorMgSgSame
import Derived.Test.YtkmimjngmfdpmaaGreatDoorMgShelfF
import Derived.Test.YtkmimjngmfdpmaaGreatDoorMgSgWorks
namespace Go.Proofs.YtkmimjngmfdpmaaGreatDoor
open Go Go.RowKit

theorem Sg.oneS_fits {s : Sg.Sign} (p : Int) (h : Sg.Sign.fits s) : Sg.Sign.fits (Sg.oneS p s) := ⟨h.1, fun v hv => by
  obtain ⟨y, hy, rfl⟩ := List.mem_map.1 hv
  exact h.2 y (List.mem_filter.1 hy).1⟩
set_option maxRecDepth 100000 in
set_option maxHeartbeats 8000000 in
theorem gRestrict_any (v : Value) (l : Sg.SList) (per : Int) (w : World) (hr : RdSL w w.heap.size v l) : Calls Tryz.prog 44 #[v, .int .i64 per] w (RetListE (Sg.oneR l per) (Sg.oneE l per) w) := by
  have HRL := Lib.hid hr
  obtain ⟨⟨u, rfl, hg⟩, hf⟩ := hr
  obtain ⟨A0, c0, rfl⟩ := hg.form
  have HG0 := Lib.hid hg
  have HFS := Lib.hid hf
  obtain ⟨i1, hi1, hz1, hs1', hb1'⟩ := info_parts info_Sign
  obtain ⟨i0, hi0, hz0, hs0', hb0'⟩ := info_parts info_Value
  obtain ⟨W1, hW1⟩ : ∃ W1, W1 = (w.alloc (.cells #[.int .i64 l.periods, .slice A0 l.signs.length c0] 24)).alloc (.cells #[.int .i64 0, .slice none 0 0] 24) := ⟨_, rfl⟩
  have hb1 : Below w.heap.size w W1 := by rw [hW1]; exact ((Below.refl _ _).alloc (Nat.le_refl _) _).alloc (by simp) _
  have hX : W1.heap[w.heap.size]? = some (.cells #[.int .i64 l.periods, .slice A0 l.signs.length c0] 24 (0, 0)) := by rw [hW1]; exact start_fst w _ _
  have hY : W1.heap[w.heap.size + 1]? = some (.cells #[.int .i64 0, .slice none 0 0] 24 (0, 0)) := by rw [hW1]; exact start_res' w _ _
  have hs1 : w.heap.size + 1 < W1.heap.size := (Array.getElem?_eq_some_iff.1 hY).1
  have x0 : W1.cell? ⟨w.heap.size, 0, none⟩ = some (.int .i64 l.periods) := by simp [World.cell?, hX]
  have x1 : W1.cell? ⟨w.heap.size, 1, none⟩ = some (.slice A0 l.signs.length c0) := by simp [World.cell?, hX]
  have HB1 := Lib.hid hb1
  have HW1 := Lib.hid hW1
  have HX1 := Lib.hid hX
  have HY1 := Lib.hid hY
  have HCK := Lib.hid (gCheck_any _ l W1 (HRL.out.on hb1))
  obtain ⟨e1, he1⟩ : ∃ e1, e1 = Sg.checkV l := ⟨_, rfl⟩
  have HE1 := Lib.hid he1
  rw [← he1] at HCK
  obtain ⟨res, hres⟩ : ∃ r, r = Sg.oneR l per := ⟨_, rfl⟩
  have HRES := Lib.hid hres
  rw [← hres]
  obtain ⟨er, her⟩ : ∃ r, r = Sg.oneE l per := ⟨_, rfl⟩
  have HER := Lib.hid her
  rw [← her]
  clear hg hf hW1 hb1 hX hY he1 hres her
  go_enter Tryz.func44, Tryz.ntmps44
  go_upto_region 1 with fail
  rw [← HW1.out]
  go_wp2_with fail
  refine HCK.out.mono ?_
  rintro e w2 ⟨rfl, hb2⟩
  have HB2 := Lib.hid (HB1.out.trans (hb2.mono (by omega)))
  have hx2 := (hb2.block w.heap.size (by omega)).trans HX1.out
  have hy2 := (hb2.block (w.heap.size + 1) hs1).trans HY1.out
  have hs2 : w.heap.size + 1 < w2.heap.size := (Array.getElem?_eq_some_iff.1 hy2).1
  have HY2 := Lib.hid hy2
  clear hb2 x0 x1
  have c0' : w2.cell? ⟨w.heap.size + 1, 0, none⟩ = some (.int .i64 0) := by simp [World.cell?, hy2]
  have c1' : w2.cell? ⟨w.heap.size + 1, 1, none⟩ = some (.slice none 0 0) := by simp [World.cell?, hy2]
  have z0' : w2.frozen? ⟨w.heap.size + 1, 0, none⟩ = false := by simp [World.frozen?, hy2]
  have z1' : w2.frozen? ⟨w.heap.size + 1, 1, none⟩ = false := by simp [World.frozen?, hy2]
  by_cases h0 : e1 = 0
  case neg =>
    have HE : Hid (er = e1) := Lib.hid (by rw [HER.out]; unfold Sg.oneE; rw [← HE1.out, if_pos h0])
    have HN : Hid (res = Sg.noL) := Lib.hid (by rw [HRES.out]; unfold Sg.oneR; rw [if_neg (by rw [← HER.out, HE.out]; exact h0)])
    clear hx2 hy2
    go_wp2_with fail
    refine bodyPost_ret (v := .tuple #[.agg #[.int .i64 0, .slice none 0 0], .int .i64 e1]) (by simp [results, Tryz.results44, go_sem, c0', c1']) rfl ?_
    exact RetListE.zero HN.out HE.out ((HB2.out.setCell (by show w.heap.size ≤ w.heap.size + 1; omega) _).setCell (by show w.heap.size ≤ w.heap.size + 1; omega) _)
  subst h0
  have HCL : Hid (Sg.checkV l = 0) := Lib.hid HE1.out.symm
  have x0 : w2.cell? ⟨w.heap.size, 0, none⟩ = some (.int .i64 l.periods) := by simp [World.cell?, hx2]
  have x1 : w2.cell? ⟨w.heap.size, 1, none⟩ = some (.slice A0 l.signs.length c0) := by simp [World.cell?, hx2]
  obtain ⟨e2, he2⟩ : ∃ e2, e2 = Sg.perE l per := ⟨_, rfl⟩
  have HCP := Lib.hid fun W => gCheckPeriod_any l A0 l.signs.length c0 per W
  rw [← he2] at HCP
  have HE2 := Lib.hid he2
  have HY2 := Lib.hid hy2
  have HX2 := Lib.hid hx2
  clear he2 hx2 hy2 c0' c1' z0' z1'
  go_wp2_with fail
  refine (HCP.out _).mono ?_
  rintro e w2' ⟨rfl, hb2⟩
  have HB2' := Lib.hid (HB2.out.trans (hb2.mono HB2.out.size))
  have hx2 := (hb2.block w.heap.size (by omega)).trans HX2.out
  have hy2 := (hb2.block (w.heap.size + 1) hs2).trans HY2.out
  have hs2' : w.heap.size + 1 < w2'.heap.size := (Array.getElem?_eq_some_iff.1 hy2).1
  have c0' : w2'.cell? ⟨w.heap.size + 1, 0, none⟩ = some (.int .i64 0) := by simp [World.cell?, hy2]
  have c1' : w2'.cell? ⟨w.heap.size + 1, 1, none⟩ = some (.slice none 0 0) := by simp [World.cell?, hy2]
  have z0' : w2'.frozen? ⟨w.heap.size + 1, 0, none⟩ = false := by simp [World.frozen?, hy2]
  have z1' : w2'.frozen? ⟨w.heap.size + 1, 1, none⟩ = false := by simp [World.frozen?, hy2]
  clear hb2 x0 x1 hs2 HB2 HY2 HX2

  rename World => w2
  have HB2 := HB2'
  have hs2 := hs2'
  have HPE : Hid (er = e2) := Lib.hid (by rw [HER.out, HE2.out]; unfold Sg.oneE Sg.perE; rw [if_neg (by rw [HCL.out]; simp)])
  by_cases h0 : e2 = 0
  case neg =>
    have HN : Hid (res = Sg.noL) := Lib.hid (by rw [HRES.out]; unfold Sg.oneR; rw [if_neg (by rw [← HER.out, HPE.out]; exact h0)])
    clear hx2 hy2
    go_wp2_with fail
    refine bodyPost_ret (v := .tuple #[.agg #[.int .i64 0, .slice none 0 0], .int .i64 e2]) (by simp [results, Tryz.results44, go_sem, c0', c1']) rfl ?_
    exact RetListE.zero HN.out HPE.out ((HB2.out.setCell (by show w.heap.size ≤ w.heap.size + 1; omega) _).setCell (by show w.heap.size ≤ w.heap.size + 1; omega) _)
  subst h0
  clear c0' c1' z0' z1'
  have HN : Hid (res = Sg.oneL l per) := Lib.hid (by rw [HRES.out]; unfold Sg.oneR; rw [if_pos (by rw [← HER.out, HPE.out])])
  have HVF : Hid (∀ s ∈ l.signs, s.values.length ≤ 12 ∧ ∀ x ∈ s.values, 1 ≤ x.lo ∧ x.lo ≤ x.hi ∧ x.hi ≤ 100) := Lib.hid fun s hs => by
    obtain ⟨i, hi⟩ := List.getElem?_of_mem hs
    have hc := Sg.check_sign HCL.out
    have hp := Sg.sign_parts (hc.2.2 i s hi)
    refine ⟨hp.2.2.2.1, fun x hx => ?_⟩
    obtain ⟨j, hj⟩ := List.getElem?_of_mem hx
    have := (Sg.value_at hp.2.2.2.2 hj).2.1
    have := hc.1
    omega
  have hsl := (Sg.check_sign HCL.out).2.1
  have x0 : w2.cell? ⟨w.heap.size, 0, none⟩ = some (.int .i64 l.periods) := by simp [World.cell?, hx2]
  have x1 : w2.cell? ⟨w.heap.size, 1, none⟩ = some (.slice A0 l.signs.length c0) := by simp [World.cell?, hx2]
  obtain ⟨w3, hw3⟩ : ∃ w3, w3 = w2.alloc (.cells #[.int .i64 1, .slice none 0 0] 24) := ⟨_, rfl⟩
  obtain ⟨ob, hob⟩ : ∃ ob, ob = w2.heap.size := ⟨_, rfl⟩
  have hb3 : Below w2.heap.size w2 w3 := by rw [hw3]; exact (Below.refl _ _).alloc (Nat.le_refl _) _
  have hz3 : w3.heap[ob]? = some (.cells #[.int .i64 1, .slice none 0 0] 24 (0, 0)) := by rw [hw3, hob]; exact heap_alloc_new _ _
  have hobl : w.heap.size + 1 < ob := by omega
  have HB3 := Lib.hid (HB2.out.trans (hb3.mono (by omega)))
  have HY3 := Lib.hid ((hb3.block (w.heap.size + 1) hs2).trans hy2)
  have HX3 := Lib.hid ((hb3.block w.heap.size (by omega)).trans hx2)
  have HZ3 := Lib.hid hz3
  have HW3 := Lib.hid hw3
  have HOB := Lib.hid hob
  clear hx2 hy2 hb3 hz3 hw3 hob
  go_upto_region 8 with fail
  rw [← HW3.out, ← HOB.out]
  clear x0 x1
  have x1 : w3.cell? ⟨w.heap.size, 1, none⟩ = some (.slice A0 l.signs.length c0) := by
    have := HX3.out
    simp [World.cell?, this]
  go_wp2_with fail
  clear x1
  go_loopg [31] l.signs.length (fun g i wr => ∃ (k : Nat) (vv : Value), k ≤ l.signs.length ∧ g = l.signs.length - k ∧ i = .int .i64 (k : Nat) ∧ Below w.heap.size w wr ∧ wr.heap[w.heap.size + 1]? = some (.cells #[.int .i64 0, .slice none 0 0] 24 (0, 0)) ∧ wr.heap[ob]? = some (.cells #[.int .i64 1, vv] 24 (0, 0)) ∧ OwnG KSign 67 wr (ob + 1) vv ((l.signs.take k).map (Sg.oneS per)))
  case atStart => exact ⟨0, .slice none 0 0, Nat.zero_le _, rfl, rfl, HB3.out, HY3.out, HZ3.out, OwnG.nil _ _ _⟩
  case round =>
    obtain ⟨k, vv, hk, rfl, rfl, hbel, hy, hz, hown⟩ := hrel
    obtain ⟨Av, cv, rfl⟩ := hown.form
    have hlt3 : ob < wr.heap.size := (Array.getElem?_eq_some_iff.1 hz).1
    have HBW := Lib.hid hbel
    have HY := Lib.hid hy
    have HZ := Lib.hid hz
    have HOK := Lib.hid hown
    have htk : ((l.signs.take k).map (Sg.oneS per)).length = k := by rw [List.length_map, List.length_take]; omega
    clear hbel hy hz hown
    by_cases hlt : k < l.signs.length
    · obtain ⟨b, off, rfl, hb, hcell⟩ := HG0.out.five (by omega)
      obtain ⟨s, hs⟩ : ∃ s, l.signs[k]? = some s := ⟨_, List.getElem?_eq_getElem hlt⟩
      obtain ⟨uv, hrd, g0, g1, g2, g3, g4⟩ := hcell k s hs
      have f0 := (HBW.out.cell (p := ⟨b, off + k * 5, none⟩) hb).trans g0
      have f1 := (HBW.out.cell (p := ⟨b, off + k * 5 + 1, none⟩) hb).trans g1
      have f2 := (HBW.out.cell (p := ⟨b, off + k * 5 + 2, none⟩) hb).trans g2
      have f3 := (HBW.out.cell (p := ⟨b, off + k * 5 + 3, none⟩) hb).trans g3
      have f4 := (HBW.out.cell (p := ⟨b, off + k * 5 + 4, none⟩) hb).trans g4
      obtain ⟨A2, c2, rfl, hvc, hvm⟩ := rds_form hrd.rds
      have hvl := HVF.out s (List.mem_of_getElem? hs)
      obtain ⟨wS, hwS⟩ : ∃ wS, wS = wr.alloc (.cells #[.string s.code, .int .i64 s.wide, .int .i64 s.high, .bool s.even, .slice A2 s.values.length c2] 67) := ⟨_, rfl⟩
      have hbS : Below wr.heap.size wr wS := by rw [hwS]; exact (Below.refl _ _).alloc (Nat.le_refl _) _
      have hsb : wS.heap[wr.heap.size]? = some (.cells #[.string s.code, .int .i64 s.wide, .int .i64 s.high, .bool s.even, .slice A2 s.values.length c2] 67 (0, 0)) := by rw [hwS]; exact heap_alloc_new _ _
      have hszS : wr.heap.size < wS.heap.size := by rw [hwS]; simp
      have HBWS := Lib.hid (HBW.out.trans (hbS.mono (by omega)))
      have HBS := Lib.hid hbS
      have HSB := Lib.hid hsb
      have s4 : wS.cell? ⟨wr.heap.size, 4, none⟩ = some (.slice A2 s.values.length c2) := by simp [World.cell?, hsb]
      obtain ⟨T, hT⟩ : ∃ T, T = (Sg.useV s per).map Sg.oneV := ⟨_, rfl⟩
      have HT := Lib.hid hT
      have HS := Lib.hid hs
      have HWS := Lib.hid hwS
      have HRV : Hid (RdS w w.heap.size 4 encValue (.slice A2 s.values.length c2) s.values) := Lib.hid hrd.rds
      have hkI : (0 : Int) ≤ (k : Int) := by omega
      have hkJ : (k : Int) < (l.signs.length : Int) := by omega
      have hvl12 : s.values.length ≤ 12 := hvl.1
      clear hcell hs g0 g1 g2 g3 g4 hrd hwS hbS hsb hT hvl
      go_upto_region 11 with fail
      rw [← HWS.out]
      clear f0 f1 f2 f3 f4
      go_wp2_with fail
      go_loopg [11, 38] s.values.length (fun g vv i wr => ∃ (m : Nat) (q : List Sg.Value), m ≤ s.values.length ∧ g = s.values.length - m ∧ i = .int .i64 (m : Nat) ∧ Below wS.heap.size wS wr ∧ wr.ownsRow wS.heap.size 60 4 vv q.length (q.flatMap encValue) ∧ q = ((s.values.take m).filter (Sg.inUseB · per)).map Sg.oneV)
      case atStart => exact ⟨0, [], Nat.zero_le _, rfl, rfl, Below.refl _ _, World.ownsRow_nil _ _ _ _, rfl⟩
      case round =>
        obtain ⟨m, q, hm, rfl, rfl, hbelm, hownm, hqm⟩ := hrel
        rename World => wq
        have HBM := Lib.hid hbelm
        have HOM := Lib.hid hownm
        have HQM := Lib.hid hqm
        have hszm := hbelm.size
        have hql : q.length ≤ 12 := by
          rw [hqm, List.length_map]
          exact Nat.le_trans (List.length_filter_le _ _) (Nat.le_trans (List.length_take_le _ _) (by omega))
        obtain ⟨Am, cm, rfl⟩ := own_form hownm
        clear hbelm hownm hqm
        by_cases hmt : m < s.values.length
        · obtain ⟨⟨ky, sy, ly, uy⟩, hy⟩ : ∃ y, s.values[m]? = some y := ⟨_, List.getElem?_eq_getElem hmt⟩
          obtain ⟨b2, o2, rfl, hb2, hcv⟩ := RdX.four HRV.out (by omega)
          obtain ⟨g0, g1, g2, g3⟩ := hcv m _ hy
          have hwq := HBWS.out.trans (HBM.out.mono HBWS.out.size)
          have f0 := (hwq.cell (p := ⟨b2, o2 + m * 4, none⟩) hb2).trans g0
          have f1 := (hwq.cell (p := ⟨b2, o2 + m * 4 + 1, none⟩) hb2).trans g1
          have f2 := (hwq.cell (p := ⟨b2, o2 + m * 4 + 2, none⟩) hb2).trans g2
          have f3 := (hwq.cell (p := ⟨b2, o2 + m * 4 + 3, none⟩) hb2).trans g3
          obtain ⟨wV, hwV⟩ : ∃ wV, wV = wq.alloc (.cells #[.int .i64 ky, .string sy, .int .i64 ly, .int .i64 uy] 60) := ⟨_, rfl⟩
          obtain ⟨vb, hvb⟩ : ∃ vb, vb = wq.heap.size := ⟨_, rfl⟩
          have hbV : Below wq.heap.size wq wV := by rw [hwV]; exact (Below.refl _ _).alloc (Nat.le_refl _) _
          have hvv : wV.heap[vb]? = some (.cells #[.int .i64 ky, .string sy, .int .i64 ly, .int .i64 uy] 60 (0, 0)) := by rw [hwV, hvb]; exact heap_alloc_new _ _
          have hszV : vb < wV.heap.size := (Array.getElem?_eq_some_iff.1 hvv).1
          have n0 : wV.cell? ⟨vb, 0, none⟩ = some (.int .i64 ky) := by simp [World.cell?, hvv]
          have n1 : wV.cell? ⟨vb, 1, none⟩ = some (.string sy) := by simp [World.cell?, hvv]
          have n2 : wV.cell? ⟨vb, 2, none⟩ = some (.int .i64 ly) := by simp [World.cell?, hvv]
          have n3 : wV.cell? ⟨vb, 3, none⟩ = some (.int .i64 uy) := by simp [World.cell?, hvv]
          have HBV := Lib.hid hbV
          have HVV := Lib.hid hvv
          have HWV := Lib.hid hwV
          have HVB := Lib.hid hvb
          have HIU := Lib.hid (gInUse_any ⟨ky, sy, ly, uy⟩ per wV)
          have hvbq : vb = wq.heap.size := hvb
          have HVQ := Lib.hid hvbq
          have HY := Lib.hid hy
          have hmI : (0 : Int) ≤ (m : Int) := by omega
          have hmJ : (m : Int) < (s.values.length : Int) := by omega
          obtain ⟨iu, hiu⟩ : ∃ iu, iu = Sg.inUseB ⟨ky, sy, ly, uy⟩ per := ⟨_, rfl⟩
          rw [← hiu] at HIU
          have HUI := Lib.hid hiu
          clear hcv hy g0 g1 g2 g3 hwq hwV hvb hbV hvv hvbq hiu
          go_upto_region 15 with fail
          rw [← HWV.out, ← HVB.out]
          clear f0 f1 f2 f3
          go_wp2_with fail
          refine HIU.out.mono ?_
          rintro e wI ⟨rfl, hbI⟩
          have HBI := Lib.hid (HBV.out.trans (hbI.mono HBV.out.size))
          have hvI := (hbI.block vb hszV).trans HVV.out
          have hszI : vb < wI.heap.size := (Array.getElem?_eq_some_iff.1 hvI).1
          have HBSI := Lib.hid (HBM.out.trans (HBI.out.mono HBM.out.size))
          clear hbI n0 n1 n2 n3
          cases iu
          · have HNQ : Hid (q = ((s.values.take (m + 1)).filter (Sg.inUseB · per)).map Sg.oneV) := Lib.hid (by rw [filt_no HY.out HUI.out.symm]; exact HQM.out)
            have HOI := Lib.hid (keep_own HOM.out HBI.out)
            clear hvI
            go_wp2_with fail
            go_roundg (s.values.length - (m + 1))
            case measure => omega
            case rel => exact ⟨m + 1, q, by omega, rfl, by go_num, HBSI.out, HOI.out, HNQ.out⟩
          have z2 : wI.frozen? ⟨vb, 2, none⟩ = false := by simp [World.frozen?, hvI]
          have z3 : (wI.setCell ⟨vb, 2, none⟩ (.int .i64 1)).frozen? ⟨vb, 3, none⟩ = false := by
            have := gset (i := 2) hvI (.int .i64 1)
            simp [World.frozen?, this]
          have n2 : wI.cell? ⟨vb, 2, none⟩ = some (.int .i64 ly) := by simp [World.cell?, hvI]
          have n3 : (wI.setCell ⟨vb, 2, none⟩ (.int .i64 1)).cell? ⟨vb, 3, none⟩ = some (.int .i64 uy) := by
            have := gset (i := 2) hvI (.int .i64 1)
            simp [World.cell?, this]
          obtain ⟨wJ, hwJ⟩ : ∃ wJ, wJ = (wI.setCell ⟨vb, 2, none⟩ (.int .i64 1)).setCell ⟨vb, 3, none⟩ (.int .i64 1) := ⟨_, rfl⟩
          have hvJ : wJ.heap[vb]? = some (.cells #[.int .i64 ky, .string sy, .int .i64 1, .int .i64 1] 60 (0, 0)) := by rw [hwJ]; exact gset (gset hvI _) _
          have hbJ : Below wq.heap.size wq wJ := by rw [hwJ]; exact (HBI.out.setCell (p := ⟨vb, 2, none⟩) (Nat.le_of_eq HVQ.out.symm) _).setCell (p := ⟨vb, 3, none⟩) (Nat.le_of_eq HVQ.out.symm) _
          have HBJ := Lib.hid hbJ
          have HBSJ := Lib.hid (HBM.out.trans (hbJ.mono HBM.out.size))
          have HWJ := Lib.hid hwJ
          clear hwJ hvI
          go_upto_region 17 with fail
          rw [← HWJ.out]
          clear z2 z3 n2 n3
          have n0 : wJ.cell? ⟨vb, 0, none⟩ = some (.int .i64 ky) := by simp [World.cell?, hvJ]
          have n1 : wJ.cell? ⟨vb, 1, none⟩ = some (.string sy) := by simp [World.cell?, hvJ]
          have n2 : wJ.cell? ⟨vb, 2, none⟩ = some (.int .i64 1) := by simp [World.cell?, hvJ]
          have n3 : wJ.cell? ⟨vb, 3, none⟩ = some (.int .i64 1) := by simp [World.cell?, hvJ]
          have HOS : Hid ((wJ.alloc (.cells #[.int .i64 ky, .string sy, .int .i64 1, .int .i64 1] 60)).ownsRow wS.heap.size 60 4 (.slice Am q.length cm) q.length (q.flatMap encValue)) := Lib.hid (keep_own HOM.out (hbJ.alloc hbJ.size _))
          have HRD := Lib.hid (rd_one_value wJ ⟨ky, sy, 1, 1⟩)
          have hk1 : q.length + 1 ≤ maxLen := by simp only [maxLen]; omega
          have hk2 : (q.length + 1) * 40 ≤ 140737488355328 := by omega
          have hbase : wS.heap.size ≤ (wJ.alloc (.cells #[.int .i64 ky, .string sy, .int .i64 1, .int .i64 1] 60)).heap.size := by have := HBSJ.out.size; simp; omega
          clear hvJ hbJ
          go_wp2_with (at_builtin; go_must (refine wpList_append_rd (enc := encValue) rfl (.tmp 47) (.tmp 49) _ rfl wS.heap.size 60 i0 _ 4 40 len_value one_value Tryz.underlying47 hi0 hz0 hs0' hb0' rfl (by decide) (.slice Am q.length cm) q.length (q.flatMap encValue) rfl HOS.out _ (.slice (some ⟨wJ.heap.size, 0, none⟩) 1 1) [(⟨ky, sy, 1, 1⟩ : Sg.Value)] rfl HRD.out hk1 hk2 hbase ?_))
          intro vk wk hownk hgk hatk
          have HBK := Lib.hid ((HBSJ.out.alloc HBSJ.out.size _).grown hgk hbase (fun q hq => (HOS.out.lt q hq).1))
          have HOKK : Hid (wk.ownsRow wS.heap.size 60 4 vk (q ++ [(⟨ky, sy, 1, 1⟩ : Sg.Value)]).length ((q ++ [(⟨ky, sy, 1, 1⟩ : Sg.Value)]).flatMap encValue)) := Lib.hid (own_value hownk)
          have HNQ : Hid (q ++ [(⟨ky, sy, 1, 1⟩ : Sg.Value)] = ((s.values.take (m + 1)).filter (Sg.inUseB · per)).map Sg.oneV) := Lib.hid (by rw [filt_yes HY.out HUI.out.symm, List.map_append, ← HQM.out]; rfl)
          clear hownk hgk hatk n0 n1 n2 n3
          go_wp2_with fail
          go_roundg (s.values.length - (m + 1))
          case measure => omega
          case rel => exact ⟨m + 1, _, by omega, rfl, by go_num, HBK.out, HOKK.out, HNQ.out⟩
        have hqT : q = T := by
          rw [HQM.out, HT.out, List.take_of_length_le (by omega)]; rfl
        subst hqT
        obtain ⟨w8, hw8⟩ : ∃ w8, w8 = wq := ⟨_, rfl⟩
        subst hw8
        have hown8' := HOM.out
        have hb8 := HBM.out
        have hmJ : ¬ (m : Int) < (s.values.length : Int) := by omega
        have hsz8' : wS.heap.size ≤ w8.heap.size := hb8.size
        have hsb8 := (hb8.block wr.heap.size (by omega)).trans HSB.out
        have HRX := Lib.hid (rdx_of_own len_value hown8')
        have s4 : w8.cell? ⟨wr.heap.size, 4, none⟩ = some (.slice A2 s.values.length c2) := by simp [World.cell?, hsb8]
        have y4 : w8.frozen? ⟨wr.heap.size, 4, none⟩ = false := by simp [World.frozen?, hsb8]
        obtain ⟨w9, hw9⟩ : ∃ w9, w9 = w8.setCell ⟨wr.heap.size, 4, none⟩ (.slice Am q.length cm) := ⟨_, rfl⟩
        have hsb9 : w9.heap[wr.heap.size]? = some (.cells #[.string s.code, .int .i64 s.wide, .int .i64 s.high, .bool s.even, .slice Am q.length cm] 67 (0, 0)) := by rw [hw9]; exact gset hsb8 _
        have hb9 : Below wr.heap.size wr w9 := by rw [hw9]; exact (HBS.out.trans (hb8.mono (by omega))).setCell (Nat.le_refl _) _
        have hsz9 : w8.heap.size ≤ w9.heap.size := by rw [hw9]; simp [World.setCell]
        have HSZ9 : Hid (w9.heap.size = w8.heap.size) := Lib.hid (by rw [hw9]; simp [World.setCell])
        have HK9 : Hid (∀ j, wS.heap.size ≤ j → w9.heap[j]? = w8.heap[j]?) := Lib.hid fun j hj => by rw [hw9]; exact Below.heap_setCell _ ⟨wr.heap.size, 4, none⟩ _ _ (by show j ≠ wr.heap.size; omega)
        have HW9 := Lib.hid hw9
        have HB9 := Lib.hid hb9
        have HY9 := Lib.hid ((hb9.block (w.heap.size + 1) (by omega)).trans HY.out)
        have hz9 := (hb9.block ob (by omega)).trans HZ.out
        have HZ9 := Lib.hid hz9
        clear hown8' hb8 hsb8 hw9 hb9
        go_upto_region 20 with fail
        rw [← HW9.out]
        clear s4 y4
        have v0 : w9.cell? ⟨wr.heap.size, 0, none⟩ = some (.string s.code) := by simp [World.cell?, hsb9]
        have v1 : w9.cell? ⟨wr.heap.size, 1, none⟩ = some (.int .i64 s.wide) := by simp [World.cell?, hsb9]
        have v2 : w9.cell? ⟨wr.heap.size, 2, none⟩ = some (.int .i64 s.high) := by simp [World.cell?, hsb9]
        have v3 : w9.cell? ⟨wr.heap.size, 3, none⟩ = some (.bool s.even) := by simp [World.cell?, hsb9]
        have v4 : w9.cell? ⟨wr.heap.size, 4, none⟩ = some (.slice Am q.length cm) := by simp [World.cell?, hsb9]
        have c1 : w9.cell? ⟨ob, 1, none⟩ = some (.slice Av k cv) := by
          have := hz9
          rw [htk] at this
          simp [World.cell?, this]
        have HO9 : Hid (OwnG KSign 67 (w9.alloc (.cells #[.string s.code, .int .i64 s.wide, .int .i64 s.high, .bool s.even, .slice Am q.length cm] 67)) (ob + 1) (.slice Av k cv) ((l.signs.take k).map (Sg.oneS per))) := Lib.hid (by
          have := HOK.out.kept (HB9.out.trans ((Below.refl _ _).alloc (by omega) (.cells #[.string s.code, .int .i64 s.wide, .int .i64 s.high, .bool s.even, .slice Am q.length cm] 67)))
          rwa [htk] at this)
        clear hsb9 hz9
        obtain ⟨cells, hown3, hgr3⟩ := HO9.out
        rw [htk] at hown3
        have HGR := Lib.hid hgr3
        have HOS := Lib.hid hown3
        have HRD := Lib.hid (rd_one_sign w9 (s.code, s.wide, s.high, s.even, (Am, q.length, cm)))
        have hk1 : k + 1 ≤ maxLen := by simp only [maxLen]; omega
        have hk2 : (k + 1) * 64 ≤ 140737488355328 := by omega
        have hbase : ob + 1 ≤ (w9.alloc (.cells #[.string s.code, .int .i64 s.wide, .int .i64 s.high, .bool s.even, .slice Am q.length cm] 67)).heap.size := by simp; omega
        clear hgr3 hown3
        go_wp2_with (at_builtin; go_must (refine wpList_append_rd (enc := encS) rfl (.tmp 55) (.tmp 57) _ rfl (ob + 1) 67 i1 _ 5 64 len_S one_S Tryz.underlying22 hi1 hz1 hs1' hb1' rfl (by decide) (.slice Av k cv) k cells rfl HOS.out _ (.slice (some ⟨w9.heap.size, 0, none⟩) 1 1) [(s.code, s.wide, s.high, s.even, (Am, q.length, cm))] rfl HRD.out hk1 hk2 hbase ?_))
        intro v5 w5 hown5 hg5 hat5
        obtain ⟨A5, c5, hv5⟩ := own_form hown5
        have hv5' : v5 = .slice A5 (k + 1) c5 := hv5
        clear hv5
        subst hv5'
        have hsz5 := hg5.size
        have hbl5 : ∀ j, j < ob + 1 → w5.heap[j]? = w9.heap[j]? := fun j hj => (hg5.block _ (by simp; omega) (fun e => by have := (HOS.out.lt _ e.symm).1; omega)).trans (((Below.refl w9.heap.size w9).alloc (Nat.le_refl _) _).block j (by omega))
        have hy5 := (hbl5 _ (by omega)).trans HY9.out
        have hz5 := (hbl5 _ (by omega)).trans HZ9.out
        have hb5 : Below w.heap.size w w5 := ((HBW.out.trans (HB9.out.mono (by omega))).alloc (by omega) _).grown hg5 (by simp; omega) (fun q hq => by have := (HOS.out.lt q hq).1; omega)
        have HON : Hid (OwnG KSign 67 w5 (ob + 1) (.slice A5 (k + 1) c5) ((l.signs.take (k + 1)).map (Sg.oneS per))) := Lib.hid (by
          rw [List.take_add_one, HS.out, Option.toList_some, List.map_append, List.map_singleton]
          refine OwnG.snoc HGR.out (cs := encS (s.code, s.wide, s.high, s.even, (Am, q.length, cm))) ⟨.slice Am q.length cm, rfl, ?_⟩ (by rw [htk]; exact hown5) hg5 ?_
          · show RdX _ _ 4 encValue _ ((Sg.useV s per).map Sg.oneV)
            rw [← HT.out]
            refine HRX.out.keep fun j hj => ⟨⟨by simp; omega, fun e => ?_, by omega⟩, ?_⟩
            · have := (HOK.out.lt j (by rw [htk]; exact e)).2
              omega
            · exact (((Below.refl w9.heap.size w9).alloc (Nat.le_refl _) _).block j (by omega)).trans (HK9.out j (by omega))
          · rcases hat5 with h | h
            · exact .inl h
            · exact .inr ⟨_, h, by simp⟩)
        have c1 : w5.cell? ⟨ob, 1, none⟩ = some (.slice Av k cv) := by
          have := hz5
          rw [htk] at this
          simp [World.cell?, this]
        have z1 : w5.frozen? ⟨ob, 1, none⟩ = false := by simp [World.frozen?, hz5]
        obtain ⟨w6, hw6⟩ : ∃ w6, w6 = w5.setCell ⟨ob, 1, none⟩ (.slice A5 (k + 1) c5) := ⟨_, rfl⟩
        have HZ6 : Hid (w6.heap[ob]? = some (.cells #[.int .i64 1, .slice A5 (k + 1) c5] 24 (0, 0))) := Lib.hid (by rw [hw6]; exact gset hz5 _)
        have HY6 : Hid (w6.heap[w.heap.size + 1]? = some (.cells #[.int .i64 0, .slice none 0 0] 24 (0, 0))) := Lib.hid (by rw [hw6, Below.heap_setCell _ ⟨ob, 1, none⟩ _ _ (by show w.heap.size + 1 ≠ ob; omega)]; exact hy5)
        have HB6 : Hid (Below w.heap.size w w6) := Lib.hid (by rw [hw6]; exact hb5.setCell (by show w.heap.size ≤ ob; omega) _)
        have HO6 : Hid (OwnG KSign 67 w6 (ob + 1) (.slice A5 (k + 1) c5) ((l.signs.take (k + 1)).map (Sg.oneS per))) := Lib.hid (by rw [hw6]; exact HON.out.aside (grown_set _ _ _) (by intro q hq; cases hq; show ob < _; omega))
        have HW6 := Lib.hid hw6
        clear hown5 hg5 hat5 hbl5 hy5 hz5 hb5 hw6 v0 v1 v2 v3 v4 hsz5
        go_upto_region 21 with fail
        rw [← HW6.out]
        clear c1 z1
        go_wp2_with fail
        go_roundg (l.signs.length - (k + 1))
        case measure => omega
        case rel => exact ⟨k + 1, .slice A5 (k + 1) c5, by omega, rfl, by go_num, HB6.out, HY6.out, HZ6.out, HO6.out⟩
    · have hkl : k = l.signs.length := by omega
      have hkJ : ¬ (k : Int) < (l.signs.length : Int) := by omega
      have HRG : Hid (RdG KSign wr (fun b => b < wr.heap.size ∧ ob + 1 ≤ b) (.slice Av ((l.signs.take k).map (Sg.oneS per)).length cv) (l.signs.map (Sg.oneS per))) := Lib.hid (by
        have := HOK.out.rd
        rwa [show l.signs.take k = l.signs by rw [hkl]; exact List.take_length] at this ⊢)
      have hz := HZ.out
      have hy := HY.out
      have m0 : wr.cell? ⟨ob, 0, none⟩ = some (.int .i64 1) := by simp [World.cell?, hz]
      have m1 : wr.cell? ⟨ob, 1, none⟩ = some (.slice Av ((l.signs.take k).map (Sg.oneS per)).length cv) := by simp [World.cell?, hz]
      have n0 : wr.cell? ⟨w.heap.size + 1, 0, none⟩ = some (.int .i64 0) := by simp [World.cell?, hy]
      have n1 : wr.cell? ⟨w.heap.size + 1, 1, none⟩ = some (.slice none 0 0) := by simp [World.cell?, hy]
      have y0 : wr.frozen? ⟨w.heap.size + 1, 0, none⟩ = false := by simp [World.frozen?, hy]
      have y1 : wr.frozen? ⟨w.heap.size + 1, 1, none⟩ = false := by simp [World.frozen?, hy]
      clear hz hy hkl
      generalize ((l.signs.take k).map (Sg.oneS per)).length = nk at m1 HRG htk
      clear htk
      go_wp2_with fail
      refine bodyPost_ret (v := .tuple #[.agg #[.int .i64 1, .slice Av nk cv], .int .i64 0]) (by simp [results, Tryz.results44, go_sem, n0, n1]) rfl ?_
      rw [HPE.out]
      refine ⟨_, rfl, ?_, (HBW.out.setCell (by show w.heap.size ≤ w.heap.size + 1; omega) _).setCell (by show w.heap.size ≤ w.heap.size + 1; omega) _⟩
      rw [HN.out]
      refine ⟨⟨_, rfl, HRG.out.keep fun j hj => ⟨by simp [World.setCell]; omega, ?_⟩⟩, fun s hs => ?_⟩
      · rw [Below.heap_setCell _ ⟨w.heap.size + 1, 1, none⟩ _ _ (by show j ≠ w.heap.size + 1; omega), Below.heap_setCell _ ⟨w.heap.size + 1, 0, none⟩ _ _ (by show j ≠ w.heap.size + 1; omega)]
      · obtain ⟨u, hu, rfl⟩ := List.mem_map.1 hs
        exact Sg.oneS_fits per (HFS.out u hu)
end Go.Proofs.YtkmimjngmfdpmaaGreatDoor
namespace Go.Proofs.YtkmimjngmfdpmaaGreatDoor
open Go Go.RowKit

theorem own_cellW {w : World} {base g m n cap j : Nat} {p q : List Sg.Value} {y z : Sg.Value} (x : Value) (hj : j < 4) (hp : p.length = m) (he : encValue z = (encValue y).set j x) (h : w.ownsRow base 60 4 (.slice (some ⟨g, 0, none⟩) n cap) n ((p ++ y :: q).flatMap encValue)) :
    (w.setCell ⟨g, m * 4 + j, none⟩ x).ownsRow base 60 4 (.slice (some ⟨g, 0, none⟩) n cap) n ((p ++ z :: q).flatMap encValue) := by
  have hl := h.1
  rcases h.2 with ⟨e, -⟩ | ⟨g', cap', cur, e, hg, hh, hle, hm, hs, ht⟩
  · cases e
  · cases e
    have hlen : (p.flatMap encValue).length = m * 4 := by rw [flat_len len_value, hp]
    have hn : (p ++ y :: q).length = n := by rw [flat_len len_value] at hl; omega
    refine ⟨by rw [flat_len len_value]; simp at hn ⊢; omega, .inr ⟨g, cap, cur.setIfInBounds (m * 4 + j) x, rfl, hg, gset hh _, hle, hm, by simpa using hs, ?_⟩⟩
    have e1 : (cur.setIfInBounds (m * 4 + j) x).toList = cur.toList.set (m * 4 + j) x := by simp
    rw [e1, List.take_set, ht, List.flatMap_append, List.flatMap_append, List.set_append_right _ _ (by omega), hlen, List.flatMap_cons, List.flatMap_cons, he]
    congr 1
    rw [show m * 4 + j - m * 4 = j by omega, List.set_append_left _ _ (by rw [len_value]; exact hj)]
theorem own_from {w : World} {base g m n cap : Nat} {p q : List Sg.Value} {y : Sg.Value} (hp : p.length = m) (x : Int) (h : w.ownsRow base 60 4 (.slice (some ⟨g, 0, none⟩) n cap) n ((p ++ y :: q).flatMap encValue)) :
    (w.setCell ⟨g, m * 4 + 2, none⟩ (.int .i64 x)).ownsRow base 60 4 (.slice (some ⟨g, 0, none⟩) n cap) n ((p ++ (⟨y.kind, y.text, x, y.hi⟩ : Sg.Value) :: q).flatMap encValue) := own_cellW (y := y) (z := ⟨y.kind, y.text, x, y.hi⟩) _ (by decide) hp rfl h
theorem own_to {w : World} {base g m n cap : Nat} {p q : List Sg.Value} {k : Int} {t : ByteArray} {a b : Int} (hp : p.length = m) (x : Int) (h : w.ownsRow base 60 4 (.slice (some ⟨g, 0, none⟩) n cap) n ((p ++ (⟨k, t, a, b⟩ : Sg.Value) :: q).flatMap encValue)) :
    (w.setCell ⟨g, m * 4 + 3, none⟩ (.int .i64 x)).ownsRow base 60 4 (.slice (some ⟨g, 0, none⟩) n cap) n ((p ++ (⟨k, t, a, x⟩ : Sg.Value) :: q).flatMap encValue) := own_cellW (y := ⟨k, t, a, b⟩) (z := ⟨k, t, a, x⟩) _ (by decide) hp rfl h
theorem own_some {w : World} {base g n cap : Nat} {e : TypeId} {xs : List Value} {o : Nat} (h : w.ownsRow base e 4 (.slice (some ⟨g, 0, none⟩) n cap) n xs) (ho : o < n * 4) : ∃ u, w.cell? ⟨g, o, none⟩ = some u := by
  have hl := h.1
  have := h.cells rfl o _ (List.getElem?_eq_getElem (by omega))
  rw [addr_add, Nat.zero_add] at this
  exact ⟨_, this⟩
set_option maxRecDepth 100000 in
set_option maxHeartbeats 8000000 in
theorem r1Restrict_any (v : Value) (l : Sg.SList) (per : Int) (w : World) (hr : RdSL w w.heap.size v l) : Calls Tryz.prog 45 #[v, .int .i64 per] w (RetListE (Sg.oneR l per) (Sg.oneE l per) w) := by
  have HRL := Lib.hid hr
  obtain ⟨⟨u, rfl, hg⟩, hf⟩ := hr
  obtain ⟨A0, c0, rfl⟩ := hg.form
  have HG0 := Lib.hid hg
  have HFS := Lib.hid hf
  obtain ⟨i1, hi1, hz1, hs1', hb1'⟩ := info_parts info_Sign
  obtain ⟨i0, hi0, hz0, hs0', hb0'⟩ := info_parts info_Value
  obtain ⟨W1, hW1⟩ : ∃ W1, W1 = (w.alloc (.cells #[.int .i64 l.periods, .slice A0 l.signs.length c0] 24)).alloc (.cells #[.int .i64 0, .slice none 0 0] 24) := ⟨_, rfl⟩
  have hb1 : Below w.heap.size w W1 := by rw [hW1]; exact ((Below.refl _ _).alloc (Nat.le_refl _) _).alloc (by simp) _
  have hX : W1.heap[w.heap.size]? = some (.cells #[.int .i64 l.periods, .slice A0 l.signs.length c0] 24 (0, 0)) := by rw [hW1]; exact start_fst w _ _
  have hY : W1.heap[w.heap.size + 1]? = some (.cells #[.int .i64 0, .slice none 0 0] 24 (0, 0)) := by rw [hW1]; exact start_res' w _ _
  have hs1 : w.heap.size + 1 < W1.heap.size := (Array.getElem?_eq_some_iff.1 hY).1
  have x0 : W1.cell? ⟨w.heap.size, 0, none⟩ = some (.int .i64 l.periods) := by simp [World.cell?, hX]
  have x1 : W1.cell? ⟨w.heap.size, 1, none⟩ = some (.slice A0 l.signs.length c0) := by simp [World.cell?, hX]
  have HB1 := Lib.hid hb1
  have HW1 := Lib.hid hW1
  have HX1 := Lib.hid hX
  have HY1 := Lib.hid hY
  have HCK := Lib.hid (r1Check_any _ l W1 (HRL.out.on hb1))
  obtain ⟨e1, he1⟩ : ∃ e1, e1 = Sg.checkV l := ⟨_, rfl⟩
  have HE1 := Lib.hid he1
  rw [← he1] at HCK
  obtain ⟨res, hres⟩ : ∃ r, r = Sg.oneR l per := ⟨_, rfl⟩
  have HRES := Lib.hid hres
  rw [← hres]
  obtain ⟨er, her⟩ : ∃ r, r = Sg.oneE l per := ⟨_, rfl⟩
  have HER := Lib.hid her
  rw [← her]
  clear hg hf hW1 hb1 hX hY he1 hres her
  go_enter Tryz.func45, Tryz.ntmps45
  go_upto_region 1 with fail
  rw [← HW1.out]
  go_wp2_with fail
  refine HCK.out.mono ?_
  rintro e w2 ⟨rfl, hb2⟩
  have HB2 := Lib.hid (HB1.out.trans (hb2.mono (by omega)))
  have hx2 := (hb2.block w.heap.size (by omega)).trans HX1.out
  have hy2 := (hb2.block (w.heap.size + 1) hs1).trans HY1.out
  have hs2 : w.heap.size + 1 < w2.heap.size := (Array.getElem?_eq_some_iff.1 hy2).1
  have HY2 := Lib.hid hy2
  clear hb2 x0 x1
  have c0' : w2.cell? ⟨w.heap.size + 1, 0, none⟩ = some (.int .i64 0) := by simp [World.cell?, hy2]
  have c1' : w2.cell? ⟨w.heap.size + 1, 1, none⟩ = some (.slice none 0 0) := by simp [World.cell?, hy2]
  have z0' : w2.frozen? ⟨w.heap.size + 1, 0, none⟩ = false := by simp [World.frozen?, hy2]
  have z1' : w2.frozen? ⟨w.heap.size + 1, 1, none⟩ = false := by simp [World.frozen?, hy2]
  by_cases h0 : e1 = 0
  case neg =>
    have HE : Hid (er = e1) := Lib.hid (by rw [HER.out]; unfold Sg.oneE; rw [← HE1.out, if_pos h0])
    have HN : Hid (res = Sg.noL) := Lib.hid (by rw [HRES.out]; unfold Sg.oneR; rw [if_neg (by rw [← HER.out, HE.out]; exact h0)])
    clear hx2 hy2
    go_wp2_with fail
    refine bodyPost_ret (v := .tuple #[.agg #[.int .i64 0, .slice none 0 0], .int .i64 e1]) (by simp [results, Tryz.results45, go_sem, c0', c1']) rfl ?_
    exact RetListE.zero HN.out HE.out ((HB2.out.setCell (by show w.heap.size ≤ w.heap.size + 1; omega) _).setCell (by show w.heap.size ≤ w.heap.size + 1; omega) _)
  subst h0
  have HCL : Hid (Sg.checkV l = 0) := Lib.hid HE1.out.symm
  have x0 : w2.cell? ⟨w.heap.size, 0, none⟩ = some (.int .i64 l.periods) := by simp [World.cell?, hx2]
  have x1 : w2.cell? ⟨w.heap.size, 1, none⟩ = some (.slice A0 l.signs.length c0) := by simp [World.cell?, hx2]
  by_cases hpb : Sg.perBad l per
  · have HPE : Hid (er = 13) := Lib.hid (by rw [HER.out]; unfold Sg.oneE; rw [if_neg (by rw [HCL.out]; simp), if_pos hpb])
    have HN : Hid (res = Sg.noL) := Lib.hid (by rw [HRES.out]; unfold Sg.oneR; rw [if_neg (by rw [← HER.out, HPE.out]; decide)])
    have hor : per < 1 ∨ (¬ per < 1 ∧ l.periods < per) := by unfold Sg.perBad at hpb; omega
    clear hx2 hy2 hpb
    rcases hor with h1 | ⟨h1, h2⟩
    all_goals
      go_wp2_with fail
      refine bodyPost_ret (v := .tuple #[.agg #[.int .i64 0, .slice none 0 0], .int .i64 13]) (by simp [results, Tryz.results45, go_sem, c0', c1']) rfl ?_
      exact RetListE.zero HN.out HPE.out ((HB2.out.setCell (by show w.heap.size ≤ w.heap.size + 1; omega) _).setCell (by show w.heap.size ≤ w.heap.size + 1; omega) _)
  obtain ⟨q3, q4⟩ : ¬ per < 1 ∧ ¬ l.periods < per := by unfold Sg.perBad at hpb; omega
  have HPE : Hid (er = 0) := Lib.hid (by rw [HER.out]; unfold Sg.oneE; rw [if_neg (by rw [HCL.out]; simp), if_neg hpb])
  clear c0' c1' z0' z1' hpb
  have HN : Hid (res = Sg.oneL l per) := Lib.hid (by rw [HRES.out]; unfold Sg.oneR; rw [if_pos (by rw [← HER.out, HPE.out])])
  have HVF : Hid (∀ s ∈ l.signs, s.values.length ≤ 12 ∧ ∀ x ∈ s.values, 1 ≤ x.lo ∧ x.lo ≤ x.hi ∧ x.hi ≤ 100) := Lib.hid fun s hs => by
    obtain ⟨i, hi⟩ := List.getElem?_of_mem hs
    have hc := Sg.check_sign HCL.out
    have hp := Sg.sign_parts (hc.2.2 i s hi)
    refine ⟨hp.2.2.2.1, fun x hx => ?_⟩
    obtain ⟨j, hj⟩ := List.getElem?_of_mem hx
    have := (Sg.value_at hp.2.2.2.2 hj).2.1
    have := hc.1
    omega
  have hsl := (Sg.check_sign HCL.out).2.1
  obtain ⟨w3, hw3⟩ : ∃ w3, w3 = w2.alloc (.cells #[.int .i64 1, .slice none 0 0] 24) := ⟨_, rfl⟩
  obtain ⟨ob, hob⟩ : ∃ ob, ob = w2.heap.size := ⟨_, rfl⟩
  have hb3 : Below w2.heap.size w2 w3 := by rw [hw3]; exact (Below.refl _ _).alloc (Nat.le_refl _) _
  have hz3 : w3.heap[ob]? = some (.cells #[.int .i64 1, .slice none 0 0] 24 (0, 0)) := by rw [hw3, hob]; exact heap_alloc_new _ _
  have hobl : w.heap.size + 1 < ob := by omega
  have HB3 := Lib.hid (HB2.out.trans (hb3.mono (by omega)))
  have HY3 := Lib.hid ((hb3.block (w.heap.size + 1) hs2).trans hy2)
  have HX3 := Lib.hid ((hb3.block w.heap.size (by omega)).trans hx2)
  have HZ3 := Lib.hid hz3
  have HW3 := Lib.hid hw3
  have HOB := Lib.hid hob
  clear hx2 hy2 hb3 hz3 hw3 hob
  go_upto_region 7 with fail
  rw [← HW3.out, ← HOB.out]
  clear x0 x1 q3 q4
  go_wp2_with fail
  go_loopg [8] l.signs.length (fun g i wr => ∃ (k : Nat) (vv : Value), k ≤ l.signs.length ∧ g = l.signs.length - k ∧ i = .int .i64 (k : Nat) ∧ Below w.heap.size w wr ∧ wr.heap[w.heap.size]? = some (.cells #[.int .i64 l.periods, .slice A0 l.signs.length c0] 24 (0, 0)) ∧ wr.heap[w.heap.size + 1]? = some (.cells #[.int .i64 0, .slice none 0 0] 24 (0, 0)) ∧ wr.heap[ob]? = some (.cells #[.int .i64 1, vv] 24 (0, 0)) ∧ OwnG KSign 67 wr (ob + 1) vv ((l.signs.take k).map (Sg.oneS per)))
  case atStart => exact ⟨0, .slice none 0 0, Nat.zero_le _, rfl, rfl, HB3.out, HX3.out, HY3.out, HZ3.out, OwnG.nil _ _ _⟩
  case round =>
    obtain ⟨k, vv, hk, rfl, rfl, hbel, hx, hy, hz, hown⟩ := hrel
    have HXR := Lib.hid hx
    have x1 : wr.cell? ⟨w.heap.size, 1, none⟩ = some (.slice A0 l.signs.length c0) := by simp [World.cell?, hx]
    obtain ⟨Av, cv, rfl⟩ := hown.form
    have hlt3 : ob < wr.heap.size := (Array.getElem?_eq_some_iff.1 hz).1
    have HBW := Lib.hid hbel
    have HY := Lib.hid hy
    have HZ := Lib.hid hz
    have HOK := Lib.hid hown
    have htk : ((l.signs.take k).map (Sg.oneS per)).length = k := by rw [List.length_map, List.length_take]; omega
    clear hbel hx hy hz hown
    by_cases hlt : k < l.signs.length
    · obtain ⟨b, off, rfl, hb, hcell⟩ := HG0.out.five (by omega)
      obtain ⟨s, hs⟩ : ∃ s, l.signs[k]? = some s := ⟨_, List.getElem?_eq_getElem hlt⟩
      obtain ⟨uv, hrd, g0, g1, g2, g3, g4⟩ := hcell k s hs
      have f0 := (HBW.out.cell (p := ⟨b, off + k * 5, none⟩) hb).trans g0
      have f1 := (HBW.out.cell (p := ⟨b, off + k * 5 + 1, none⟩) hb).trans g1
      have f2 := (HBW.out.cell (p := ⟨b, off + k * 5 + 2, none⟩) hb).trans g2
      have f3 := (HBW.out.cell (p := ⟨b, off + k * 5 + 3, none⟩) hb).trans g3
      have f4 := (HBW.out.cell (p := ⟨b, off + k * 5 + 4, none⟩) hb).trans g4
      obtain ⟨A2, c2, rfl, hvc, hvm⟩ := rds_form hrd.rds
      have hvl := HVF.out s (List.mem_of_getElem? hs)
      obtain ⟨wS, hwS⟩ : ∃ wS, wS = wr.alloc (.cells #[.string s.code, .int .i64 s.wide, .int .i64 s.high, .bool s.even, .slice A2 s.values.length c2] 67) := ⟨_, rfl⟩
      have hbS : Below wr.heap.size wr wS := by rw [hwS]; exact (Below.refl _ _).alloc (Nat.le_refl _) _
      have hsb : wS.heap[wr.heap.size]? = some (.cells #[.string s.code, .int .i64 s.wide, .int .i64 s.high, .bool s.even, .slice A2 s.values.length c2] 67 (0, 0)) := by rw [hwS]; exact heap_alloc_new _ _
      have hszS : wr.heap.size < wS.heap.size := by rw [hwS]; simp
      have HBWS := Lib.hid (HBW.out.trans (hbS.mono (by omega)))
      have HBS := Lib.hid hbS
      have HSB := Lib.hid hsb
      have s4 : wS.cell? ⟨wr.heap.size, 4, none⟩ = some (.slice A2 s.values.length c2) := by simp [World.cell?, hsb]
      obtain ⟨T, hT⟩ : ∃ T, T = (Sg.useV s per).map Sg.oneV := ⟨_, rfl⟩
      have HT := Lib.hid hT
      have HS := Lib.hid hs
      have HWS := Lib.hid hwS
      have hkI : (0 : Int) ≤ (k : Int) := by omega
      have hkJ : (k : Int) < (l.signs.length : Int) := by omega
      have hvl12 : s.values.length ≤ 12 := hvl.1
      have HIU := Lib.hid (r1InUse_any s (.slice A2 s.values.length c2) per wS ((hrd.rds.below HBWS.out).more HBWS.out.size) (by omega))
      have v0 : wS.cell? ⟨wr.heap.size, 0, none⟩ = some (.string s.code) := by simp [World.cell?, hsb]
      have v1 : wS.cell? ⟨wr.heap.size, 1, none⟩ = some (.int .i64 s.wide) := by simp [World.cell?, hsb]
      have v2 : wS.cell? ⟨wr.heap.size, 2, none⟩ = some (.int .i64 s.high) := by simp [World.cell?, hsb]
      have v3 : wS.cell? ⟨wr.heap.size, 3, none⟩ = some (.bool s.even) := by simp [World.cell?, hsb]
      obtain ⟨Q, hQ⟩ : ∃ Q, Q = Sg.useV s per := ⟨_, rfl⟩
      have hQl : Q.length ≤ 12 := by rw [hQ]; exact Nat.le_trans (List.length_filter_le _ _) hvl12
      rw [← hQ] at HIU hT
      have HTQ := Lib.hid hT
      clear hcell hs g0 g1 g2 g3 g4 hrd hwS hbS hsb hT hvl hQ
      go_upto_region 11 with fail
      rw [← HWS.out]
      clear f0 f1 f2 f3 f4 x1
      go_wp2_with fail
      refine HIU.out.mono ?_
      rintro e w7 ⟨v7, rfl, hown7, hb7⟩
      obtain ⟨Am, cm, rfl⟩ := own_form hown7
      have hsb7 := (hb7.block wr.heap.size (by omega)).trans HSB.out
      have s4 : w7.cell? ⟨wr.heap.size, 4, none⟩ = some (.slice A2 s.values.length c2) := by simp [World.cell?, hsb7]
      have y4 : w7.frozen? ⟨wr.heap.size, 4, none⟩ = false := by simp [World.frozen?, hsb7]
      obtain ⟨w8, hw8⟩ : ∃ w8, w8 = w7.setCell ⟨wr.heap.size, 4, none⟩ (.slice Am Q.length cm) := ⟨_, rfl⟩
      have hsb8 : w8.heap[wr.heap.size]? = some (.cells #[.string s.code, .int .i64 s.wide, .int .i64 s.high, .bool s.even, .slice Am Q.length cm] 67 (0, 0)) := by rw [hw8]; exact gset hsb7 _
      have hb8 : Below wr.heap.size wr w8 := by rw [hw8]; exact (HBS.out.trans (hb7.mono (by omega))).setCell (Nat.le_refl _) _
      have hown8 : w8.ownsRow wS.heap.size 60 4 (.slice Am Q.length cm) Q.length (Q.flatMap encValue) := by
        rw [hw8]
        exact hown7.kept (grown_set w7 ⟨wr.heap.size, 4, none⟩ _) (by
          cases Am with
          | none => exact .inl rfl
          | some a =>
            refine .inr fun e => ?_
            have := (hown7.lt a.block rfl).1
            injection e with e
            have e' : a.block = wr.heap.size := e
            omega)
      have HSB8 := Lib.hid hsb8
      have HB8 := Lib.hid hb8
      have HO8 := Lib.hid hown8
      have HW8 := Lib.hid hw8
      have hsz7 := hb7.size
      clear hown7 hb7 hsb7 hw8 hsb8 hb8 hown8 v0 v1 v2 v3
      go_upto_region 12 with fail
      rw [← HW8.out]
      clear s4 y4
      go_wp2_with fail
      go_loopg [10] Q.length (fun g i wr' => ∃ m : Nat, m ≤ Q.length ∧ g = Q.length - m ∧ i = .int .i64 (m : Nat) ∧ Below wr.heap.size wr wr' ∧ wr'.heap[wr.heap.size]? = some (.cells #[.string s.code, .int .i64 s.wide, .int .i64 s.high, .bool s.even, .slice Am Q.length cm] 67 (0, 0)) ∧ wr'.ownsRow wS.heap.size 60 4 (.slice Am Q.length cm) Q.length (((Q.take m).map Sg.oneV ++ Q.drop m).flatMap encValue))
      case atStart => exact ⟨0, Nat.zero_le _, rfl, rfl, HB8.out, HSB8.out, by simpa using HO8.out⟩
      case round =>
        obtain ⟨m, hm, rfl, rfl, hbm, hsm, hom⟩ := hrel
        rename World => wq
        have HBM := Lib.hid hbm
        have HSM := Lib.hid hsm
        have HOM := Lib.hid hom
        have s4 : wq.cell? ⟨wr.heap.size, 4, none⟩ = some (.slice Am Q.length cm) := by simp [World.cell?, hsm]
        by_cases hmt : m < Q.length
        · obtain ⟨b2, rfl⟩ : ∃ b2, Am = some ⟨b2, 0, none⟩ := by
            rcases HOM.out.2 with ⟨-, e⟩ | ⟨g, cap, cur, e, -⟩
            · omega
            · injection e with e1
              exact ⟨g, e1⟩
          have hb2 := HOM.out.lt b2 rfl
          obtain ⟨y, hy⟩ : ∃ y, Q[m]? = some y := ⟨_, List.getElem?_eq_getElem hmt⟩
          have z2 : wq.frozen? ⟨b2, m * 4 + 2, none⟩ = false := own_free HOM.out (m * 4 + 2)
          have HO1 : Hid ((wq.setCell ⟨b2, m * 4 + 2, none⟩ (.int .i64 1)).ownsRow wS.heap.size 60 4 (.slice (some ⟨b2, 0, none⟩) Q.length cm) Q.length (((Q.take m).map Sg.oneV ++ (⟨y.kind, y.text, 1, y.hi⟩ : Sg.Value) :: Q.drop (m + 1)).flatMap encValue)) := Lib.hid (own_from (by rw [List.length_map, List.length_take]; omega) 1 (by rw [List.drop_eq_getElem_cons hmt, (List.getElem?_eq_some_iff.1 hy).2] at hom; exact hom))
          have z3 : (wq.setCell ⟨b2, m * 4 + 2, none⟩ (.int .i64 1)).frozen? ⟨b2, m * 4 + 3, none⟩ = false := own_free HO1.out (m * 4 + 3)
          have hs1 : (wq.setCell ⟨b2, m * 4 + 2, none⟩ (.int .i64 1)).heap[wr.heap.size]? = some (.cells #[.string s.code, .int .i64 s.wide, .int .i64 s.high, .bool s.even, .slice (some ⟨b2, 0, none⟩) Q.length cm] 67 (0, 0)) := by
            rw [Below.heap_setCell _ ⟨b2, m * 4 + 2, none⟩ _ _ (by show wr.heap.size ≠ b2; omega)]; exact hsm
          have s4' : (wq.setCell ⟨b2, m * 4 + 2, none⟩ (.int .i64 1)).cell? ⟨wr.heap.size, 4, none⟩ = some (.slice (some ⟨b2, 0, none⟩) Q.length cm) := by simp [World.cell?, hs1]
          have HO2 : Hid (((wq.setCell ⟨b2, m * 4 + 2, none⟩ (.int .i64 1)).setCell ⟨b2, m * 4 + 3, none⟩ (.int .i64 1)).ownsRow wS.heap.size 60 4 (.slice (some ⟨b2, 0, none⟩) Q.length cm) Q.length (((Q.take (m + 1)).map Sg.oneV ++ Q.drop (m + 1)).flatMap encValue)) := Lib.hid (by
            have h := own_to (by rw [List.length_map, List.length_take]; omega : ((Q.take m).map Sg.oneV).length = m) 1 HO1.out
            have e : (Q.take (m + 1)).map Sg.oneV ++ Q.drop (m + 1) = (Q.take m).map Sg.oneV ++ (⟨y.kind, y.text, 1, 1⟩ : Sg.Value) :: Q.drop (m + 1) := by
              rw [List.take_add_one, hy]; simp [Sg.oneV]
            rw [e]; exact h)
          have HS2 : Hid (((wq.setCell ⟨b2, m * 4 + 2, none⟩ (.int .i64 1)).setCell ⟨b2, m * 4 + 3, none⟩ (.int .i64 1)).heap[wr.heap.size]? = some (.cells #[.string s.code, .int .i64 s.wide, .int .i64 s.high, .bool s.even, .slice (some ⟨b2, 0, none⟩) Q.length cm] 67 (0, 0))) := Lib.hid (by
            rw [Below.heap_setCell _ ⟨b2, m * 4 + 3, none⟩ _ _ (by show wr.heap.size ≠ b2; omega)]; exact hs1)
          have HB2' : Hid (Below wr.heap.size wr ((wq.setCell ⟨b2, m * 4 + 2, none⟩ (.int .i64 1)).setCell ⟨b2, m * 4 + 3, none⟩ (.int .i64 1))) := Lib.hid ((hbm.setCell (p := ⟨b2, m * 4 + 2, none⟩) (by show wr.heap.size ≤ b2; omega) _).setCell (p := ⟨b2, m * 4 + 3, none⟩) (by show wr.heap.size ≤ b2; omega) _)
          have hmI : (0 : Int) ≤ (m : Int) := by omega
          have hmJ : (m : Int) < (Q.length : Int) := by omega
          have hcu := hom.cells rfl
          have n2 : ∃ u, wq.cell? ⟨b2, m * 4 + 2, none⟩ = some u := own_some hom (by omega)
          have n3 : ∃ u, (wq.setCell ⟨b2, m * 4 + 2, none⟩ (.int .i64 1)).cell? ⟨b2, m * 4 + 3, none⟩ = some u := own_some HO1.out (by omega)
          obtain ⟨u2, n2⟩ := n2
          obtain ⟨u3, n3⟩ := n3
          clear hy hcu hs1 hbm hsm hom
          go_wp2_with fail
          go_roundg (Q.length - (m + 1))
          case measure => omega
          case rel => exact ⟨m + 1, by omega, rfl, by go_num, HB2'.out, HS2.out, HO2.out⟩
        have hown9 : wq.ownsRow wS.heap.size 60 4 (.slice Am Q.length cm) T.length (T.flatMap encValue) := by
          rw [HTQ.out, List.length_map]
          rw [List.take_of_length_le (by omega), List.drop_eq_nil_of_le (by omega), List.append_nil] at hom
          exact hom
        have hTl : T.length = Q.length := by rw [HTQ.out, List.length_map]
        have hmJ : ¬ (m : Int) < (Q.length : Int) := by omega
        obtain ⟨w9, hw9⟩ : ∃ w9, w9 = wq := ⟨_, rfl⟩
        subst hw9
        have hsb9 := hsm
        have hb9 := hbm
        have hszW : wr.heap.size < w9.heap.size := (Array.getElem?_eq_some_iff.1 hsm).1
        have HRX := Lib.hid (rdx_of_own len_value (v := .slice Am Q.length cm) hown9)
        have HB9 := Lib.hid hb9
        have HX9 := Lib.hid ((hb9.block w.heap.size (by omega)).trans HXR.out)
        have HY9 := Lib.hid ((hb9.block (w.heap.size + 1) (by omega)).trans HY.out)
        have hz9 := (hb9.block ob (by omega)).trans HZ.out
        have HZ9 := Lib.hid hz9
        have HTL := Lib.hid hTl
        clear hown9 hbm hsm hom hb9 hTl
        go_upto_region 17 with fail
        clear s4
        have v0 : w9.cell? ⟨wr.heap.size, 0, none⟩ = some (.string s.code) := by simp [World.cell?, hsb9]
        have v1 : w9.cell? ⟨wr.heap.size, 1, none⟩ = some (.int .i64 s.wide) := by simp [World.cell?, hsb9]
        have v2 : w9.cell? ⟨wr.heap.size, 2, none⟩ = some (.int .i64 s.high) := by simp [World.cell?, hsb9]
        have v3 : w9.cell? ⟨wr.heap.size, 3, none⟩ = some (.bool s.even) := by simp [World.cell?, hsb9]
        have v4 : w9.cell? ⟨wr.heap.size, 4, none⟩ = some (.slice Am Q.length cm) := by simp [World.cell?, hsb9]
        have c1 : w9.cell? ⟨ob, 1, none⟩ = some (.slice Av k cv) := by
          have := hz9
          rw [htk] at this
          simp [World.cell?, this]
        have HO9 : Hid (OwnG KSign 67 (w9.alloc (.cells #[.string s.code, .int .i64 s.wide, .int .i64 s.high, .bool s.even, .slice Am Q.length cm] 67)) (ob + 1) (.slice Av k cv) ((l.signs.take k).map (Sg.oneS per))) := Lib.hid (by
          have := HOK.out.kept (HB9.out.trans ((Below.refl _ _).alloc (by omega) (.cells #[.string s.code, .int .i64 s.wide, .int .i64 s.high, .bool s.even, .slice Am Q.length cm] 67)))
          rwa [htk] at this)
        clear hsb9 hz9
        obtain ⟨cells, hown3, hgr3⟩ := HO9.out
        rw [htk] at hown3
        have HGR := Lib.hid hgr3
        have HOS := Lib.hid hown3
        have HRD := Lib.hid (rd_one_sign w9 (s.code, s.wide, s.high, s.even, (Am, Q.length, cm)))
        have hk1 : k + 1 ≤ maxLen := by simp only [maxLen]; omega
        have hk2 : (k + 1) * 64 ≤ 140737488355328 := by omega
        have hbase : ob + 1 ≤ (w9.alloc (.cells #[.string s.code, .int .i64 s.wide, .int .i64 s.high, .bool s.even, .slice Am Q.length cm] 67)).heap.size := by simp; omega
        clear hgr3 hown3
        go_wp2_with (at_builtin; go_must (refine wpList_append_rd (enc := encS) rfl (.tmp 61) (.tmp 63) _ rfl (ob + 1) 67 i1 _ 5 64 len_S one_S Tryz.underlying22 hi1 hz1 hs1' hb1' rfl (by decide) (.slice Av k cv) k cells rfl HOS.out _ (.slice (some ⟨w9.heap.size, 0, none⟩) 1 1) [(s.code, s.wide, s.high, s.even, (Am, Q.length, cm))] rfl HRD.out hk1 hk2 hbase ?_))
        intro v5 w5 hown5 hg5 hat5
        obtain ⟨A5, c5, hv5⟩ := own_form hown5
        have hv5' : v5 = .slice A5 (k + 1) c5 := hv5
        clear hv5
        subst hv5'
        have hsz5 := hg5.size
        have hbl5 : ∀ j, j < ob + 1 → w5.heap[j]? = w9.heap[j]? := fun j hj => (hg5.block _ (by simp; omega) (fun e => by have := (HOS.out.lt _ e.symm).1; omega)).trans (((Below.refl w9.heap.size w9).alloc (Nat.le_refl _) _).block j (by omega))
        have hx5 := (hbl5 _ (by omega)).trans HX9.out
        have hy5 := (hbl5 _ (by omega)).trans HY9.out
        have hz5 := (hbl5 _ (by omega)).trans HZ9.out
        have hb5 : Below w.heap.size w w5 := ((HBW.out.trans (HB9.out.mono (by omega))).alloc (by omega) _).grown hg5 (by simp; omega) (fun q hq => by have := (HOS.out.lt q hq).1; omega)
        have HON : Hid (OwnG KSign 67 w5 (ob + 1) (.slice A5 (k + 1) c5) ((l.signs.take (k + 1)).map (Sg.oneS per))) := Lib.hid (by
          rw [List.take_add_one, HS.out, Option.toList_some, List.map_append, List.map_singleton]
          refine OwnG.snoc HGR.out (cs := encS (s.code, s.wide, s.high, s.even, (Am, Q.length, cm))) ⟨.slice Am Q.length cm, rfl, ?_⟩ (by rw [htk]; exact hown5) hg5 ?_
          · show RdX _ _ 4 encValue _ ((Sg.useV s per).map Sg.oneV)
            rw [← HT.out]
            refine HRX.out.keep fun j hj => ⟨⟨by simp; omega, fun e => ?_, by omega⟩, ?_⟩
            · have := (HOK.out.lt j (by rw [htk]; exact e)).2
              omega
            · exact (((Below.refl w9.heap.size w9).alloc (Nat.le_refl _) _).block j (by omega)).trans rfl
          · rcases hat5 with h | h
            · exact .inl h
            · exact .inr ⟨_, h, by simp⟩)
        have c1 : w5.cell? ⟨ob, 1, none⟩ = some (.slice Av k cv) := by
          have := hz5
          rw [htk] at this
          simp [World.cell?, this]
        have z1 : w5.frozen? ⟨ob, 1, none⟩ = false := by simp [World.frozen?, hz5]
        obtain ⟨w6, hw6⟩ : ∃ w6, w6 = w5.setCell ⟨ob, 1, none⟩ (.slice A5 (k + 1) c5) := ⟨_, rfl⟩
        have HZ6 : Hid (w6.heap[ob]? = some (.cells #[.int .i64 1, .slice A5 (k + 1) c5] 24 (0, 0))) := Lib.hid (by rw [hw6]; exact gset hz5 _)
        have HY6 : Hid (w6.heap[w.heap.size + 1]? = some (.cells #[.int .i64 0, .slice none 0 0] 24 (0, 0))) := Lib.hid (by rw [hw6, Below.heap_setCell _ ⟨ob, 1, none⟩ _ _ (by show w.heap.size + 1 ≠ ob; omega)]; exact hy5)
        have HX6 : Hid (w6.heap[w.heap.size]? = some (.cells #[.int .i64 l.periods, .slice (some ⟨b, off, none⟩) l.signs.length c0] 24 (0, 0))) := Lib.hid (by rw [hw6, Below.heap_setCell _ ⟨ob, 1, none⟩ _ _ (by show w.heap.size ≠ ob; omega)]; exact hx5)
        have HB6 : Hid (Below w.heap.size w w6) := Lib.hid (by rw [hw6]; exact hb5.setCell (by show w.heap.size ≤ ob; omega) _)
        have HO6 : Hid (OwnG KSign 67 w6 (ob + 1) (.slice A5 (k + 1) c5) ((l.signs.take (k + 1)).map (Sg.oneS per))) := Lib.hid (by rw [hw6]; exact HON.out.aside (grown_set _ _ _) (by intro q hq; cases hq; show ob < _; omega))
        have HW6 := Lib.hid hw6
        clear hown5 hg5 hat5 hbl5 hx5 hy5 hz5 hb5 hw6 v0 v1 v2 v3 v4 hsz5
        go_upto_region 9 with fail
        rw [← HW6.out]
        clear c1 z1
        go_wp2_with fail
        go_roundg (l.signs.length - (k + 1))
        case measure => omega
        case rel => exact ⟨k + 1, .slice A5 (k + 1) c5, by omega, rfl, by go_num, HB6.out, HX6.out, HY6.out, HZ6.out, HO6.out⟩
    · have hkl : k = l.signs.length := by omega
      have hkJ : ¬ (k : Int) < (l.signs.length : Int) := by omega
      have HRG : Hid (RdG KSign wr (fun b => b < wr.heap.size ∧ ob + 1 ≤ b) (.slice Av ((l.signs.take k).map (Sg.oneS per)).length cv) (l.signs.map (Sg.oneS per))) := Lib.hid (by
        have := HOK.out.rd
        rwa [show l.signs.take k = l.signs by rw [hkl]; exact List.take_length] at this ⊢)
      have hz := HZ.out
      have hy := HY.out
      have m0 : wr.cell? ⟨ob, 0, none⟩ = some (.int .i64 1) := by simp [World.cell?, hz]
      have m1 : wr.cell? ⟨ob, 1, none⟩ = some (.slice Av ((l.signs.take k).map (Sg.oneS per)).length cv) := by simp [World.cell?, hz]
      have n0 : wr.cell? ⟨w.heap.size + 1, 0, none⟩ = some (.int .i64 0) := by simp [World.cell?, hy]
      have n1 : wr.cell? ⟨w.heap.size + 1, 1, none⟩ = some (.slice none 0 0) := by simp [World.cell?, hy]
      have y0 : wr.frozen? ⟨w.heap.size + 1, 0, none⟩ = false := by simp [World.frozen?, hy]
      have y1 : wr.frozen? ⟨w.heap.size + 1, 1, none⟩ = false := by simp [World.frozen?, hy]
      clear hz hy hkl
      generalize ((l.signs.take k).map (Sg.oneS per)).length = nk at m1 HRG htk
      clear htk
      go_wp2_with fail
      refine bodyPost_ret (v := .tuple #[.agg #[.int .i64 1, .slice Av nk cv], .int .i64 0]) (by simp [results, Tryz.results45, go_sem, n0, n1]) rfl ?_
      rw [HPE.out]
      refine ⟨_, rfl, ?_, (HBW.out.setCell (by show w.heap.size ≤ w.heap.size + 1; omega) _).setCell (by show w.heap.size ≤ w.heap.size + 1; omega) _⟩
      rw [HN.out]
      refine ⟨⟨_, rfl, HRG.out.keep fun j hj => ⟨by simp [World.setCell]; omega, ?_⟩⟩, fun s hs => ?_⟩
      · rw [Below.heap_setCell _ ⟨w.heap.size + 1, 1, none⟩ _ _ (by show j ≠ w.heap.size + 1; omega), Below.heap_setCell _ ⟨w.heap.size + 1, 0, none⟩ _ _ (by show j ≠ w.heap.size + 1; omega)]
      · obtain ⟨u, hu, rfl⟩ := List.mem_map.1 hs
        exact Sg.oneS_fits per (HFS.out u hu)
end Go.Proofs.YtkmimjngmfdpmaaGreatDoor
namespace Go.Proofs.YtkmimjngmfdpmaaGreatDoor
open Go Go.RowKit
theorem r1Same_two (v v' : Value) (l : Sg.SList) (w : World) (ha : RdSL w w.heap.size v l) (hb : RdSL w w.heap.size v' l) : Calls Tryz.prog 23 #[v, v'] w (RetBB true w) := by
  refine (r1Same_any v v' l l w ha hb).mono ?_
  rintro e w' ⟨q, rfl, hq, hb⟩
  have : q = true := hq.2 ⟨rfl, rfl⟩
  subst this
  exact ⟨rfl, hb⟩
set_option maxRecDepth 100000 in
set_option maxHeartbeats 8000000 in
theorem SignsTidies_any (v : Value) (l : Sg.SList) (per : Int) (w : World) (hr : RdSL w w.heap.size v l) (hg : Glob w) (ht : GTab w) : Calls Tryz.prog 12 #[v, .int .i64 per] w (RetBB true w) := by
  have HRL := Lib.hid fun (W : World) (hW : Below w.heap.size w W) => hr.on hW
  have HGT := Lib.hid fun (W : World) (hW : Below w.heap.size w W) => (⟨hg.below hW, ht.below hW⟩ : Glob W ∧ GTab W)
  have HWK := Lib.hid fun (W : World) (hW : Below w.heap.size w W) => works1_any W (hg.below hW) (ht.below hW)
  obtain ⟨⟨u, rfl, hgl⟩, hf⟩ := hr
  obtain ⟨A0, c0, rfl⟩ := hgl.form
  obtain ⟨W1, hW1⟩ : ∃ W1, W1 = w.alloc (.cells #[.int .i64 l.periods, .slice A0 l.signs.length c0] 24) := ⟨_, rfl⟩
  have hb1 : Below w.heap.size w W1 := by rw [hW1]; exact (Below.refl _ _).alloc (Nat.le_refl _) _
  have hX : W1.heap[w.heap.size]? = some (.cells #[.int .i64 l.periods, .slice A0 l.signs.length c0] 24 (0, 0)) := by rw [hW1]; exact heap_alloc_new _ _
  have hs1 : w.heap.size < W1.heap.size := (Array.getElem?_eq_some_iff.1 hX).1
  have CX : Hid (∀ W, Below W1.heap.size W1 W → W.cell? ⟨w.heap.size, 0, none⟩ = some (.int .i64 l.periods) ∧ W.cell? ⟨w.heap.size, 1, none⟩ = some (.slice A0 l.signs.length c0)) := Lib.hid fun W hW => by
    have p := (hW.block _ hs1).trans hX
    exact ⟨by simp [World.cell?, p], by simp [World.cell?, p]⟩
  obtain ⟨x0, x1⟩ := CX.out W1 (Below.refl _ _)
  have HB1 := Lib.hid hb1
  have HW1 := Lib.hid hW1
  have HBG := Lib.hid (l1Big_any _ l W1 (HRL.out W1 hb1))
  clear hgl hf hW1 hb1 hX hg ht
  cases hbig : Sg.bigV l
  case true =>
    rw [hbig] at HBG
    clear hbig
    go_enter Tryz.func12, Tryz.ntmps12
    go_upto_region 1 with fail
    rw [← HW1.out]
    go_wp2_with fail
    refine HBG.out.mono ?_
    rintro e w2 ⟨rfl, hb2⟩
    have HB2 := Lib.hid (HB1.out.trans (hb2.mono (by omega)))
    clear hb2
    go_wp2_with fail
    refine (HWK.out _ HB2.out).mono ?_
    rintro e w3 ⟨rfl, hb3⟩
    have HB3 := Lib.hid (HB2.out.trans (hb3.mono HB2.out.size))
    clear hb3
    go_wp2_with fail
    go_ret
    exact ⟨rfl, HB3.out⟩
  rw [hbig] at HBG
  have HSM := Lib.hid (Sg.big_small hbig).1
  clear hbig
  obtain ⟨TL, hTL⟩ : ∃ T, T = Sg.tidyR l := ⟨_, rfl⟩
  obtain ⟨OL, hOL⟩ : ∃ T, T = Sg.oneR l per := ⟨_, rfl⟩
  obtain ⟨e1, he1⟩ : ∃ e, e = Sg.checkV l := ⟨_, rfl⟩
  obtain ⟨e2, he2⟩ : ∃ e, e = Sg.oneE l per := ⟨_, rfl⟩
  have HGT1 := Lib.hid fun (y : Value) (W : World) (hy : RdSL W W.heap.size y l) => gTidy_any y l W hy
  have HGT2 := Lib.hid fun (y : Value) (W : World) (hy : RdSL W W.heap.size y l) => r1Tidy_any y l W hy
  have HGR1 := Lib.hid fun (y : Value) (W : World) (hy : RdSL W W.heap.size y l) => gRestrict_any y l per W hy
  have HGR2 := Lib.hid fun (y : Value) (W : World) (hy : RdSL W W.heap.size y l) => r1Restrict_any y l per W hy
  rw [← hTL, ← he1] at HGT1 HGT2
  rw [← hOL, ← he2] at HGR1 HGR2
  clear hTL hOL he1 he2
  go_enter Tryz.func12, Tryz.ntmps12
  go_upto_region 1 with fail
  rw [← HW1.out]
  go_wp2_with fail
  refine HBG.out.mono ?_
  rintro e w2 ⟨rfl, hb2⟩
  have HB2 := Lib.hid (HB1.out.trans (hb2.mono (by omega)))
  have H2 := Lib.hid hb2
  clear hb2 x0 x1
  obtain ⟨x0, x1⟩ := CX.out w2 H2.out
  go_wp2_with fail
  refine (r1Copy_any _ l w2 (HRL.out w2 HB2.out) HSM.out).mono ?_
  rintro e w2c ⟨vca, rfl, hr2c, hb2c⟩
  have HR2c := Lib.hid hr2c
  clear hr2c
  have HB2c := Lib.hid (HB2.out.trans (hb2c.mono HB2.out.size))
  have H2c := Lib.hid (H2.out.trans (hb2c.mono H2.out.size))
  clear hb2c x0 x1
  obtain ⟨x0, x1⟩ := CX.out w2c H2c.out
  go_wp2_with fail
  refine (HGT1.out _ w2c HR2c.out).mono ?_
  rintro e ua ⟨ya, rfl, hra, hua⟩
  have HBUa := Lib.hid (HB2c.out.trans (hua.mono HB2c.out.size))
  have HUa := Lib.hid (H2c.out.trans (hua.mono H2c.out.size))
  have HRYa := Lib.hid hra
  obtain ⟨⟨za, rfl, hga⟩, -⟩ := hra
  obtain ⟨Aa, ca, rfl⟩ := hga.form
  obtain ⟨wa, hwa⟩ : ∃ W, W = ua.alloc (.cells #[.int .i64 TL.periods, .slice Aa TL.signs.length ca] 24) := ⟨_, rfl⟩
  obtain ⟨ba, hba⟩ : ∃ b, b = ua.heap.size := ⟨_, rfl⟩
  have hbwa : Below ua.heap.size ua wa := by rw [hwa]; exact (Below.refl _ _).alloc (Nat.le_refl _) _
  have hhwa : wa.heap[ba]? = some (.cells #[.int .i64 TL.periods, .slice Aa TL.signs.length ca] 24 (0, 0)) := by rw [hwa, hba]; exact heap_alloc_new _ _
  have CBa : Hid (∀ W, Below wa.heap.size wa W → W.cell? ⟨ba, 0, none⟩ = some (.int .i64 TL.periods) ∧ W.cell? ⟨ba, 1, none⟩ = some (.slice Aa TL.signs.length ca)) := Lib.hid fun W hW => by
    have p := (hW.block _ (Array.getElem?_eq_some_iff.1 hhwa).1).trans hhwa
    exact ⟨by simp [World.cell?, p], by simp [World.cell?, p]⟩
  have HRWa := Lib.hid (HRYa.out.on hbwa)
  have HBa := Lib.hid (HBUa.out.trans (hbwa.mono HBUa.out.size))
  have Ha := Lib.hid (HUa.out.trans (hbwa.mono HUa.out.size))
  have HWWa := Lib.hid hwa
  have HBBa := Lib.hid hba
  clear hua hga hwa hba hbwa hhwa x0 x1
  go_upto_region 4 with fail
  rw [← HWWa.out, ← HBBa.out]
  obtain ⟨x0, x1⟩ := CX.out wa Ha.out
  go_wp2_with fail
  refine (HGT2.out _ wa (HRL.out wa HBa.out)).mono ?_
  rintro e ub ⟨yb, rfl, hrb, hub⟩
  have HBUb := Lib.hid (HBa.out.trans (hub.mono HBa.out.size))
  have HUb := Lib.hid (Ha.out.trans (hub.mono Ha.out.size))
  have HRYb := Lib.hid hrb
  obtain ⟨⟨zb, rfl, hgb⟩, -⟩ := hrb
  obtain ⟨Ab, cb, rfl⟩ := hgb.form
  obtain ⟨wb, hwb⟩ : ∃ W, W = ub.alloc (.cells #[.int .i64 TL.periods, .slice Ab TL.signs.length cb] 24) := ⟨_, rfl⟩
  obtain ⟨bb, hbb⟩ : ∃ b, b = ub.heap.size := ⟨_, rfl⟩
  have hbwb : Below ub.heap.size ub wb := by rw [hwb]; exact (Below.refl _ _).alloc (Nat.le_refl _) _
  have hhwb : wb.heap[bb]? = some (.cells #[.int .i64 TL.periods, .slice Ab TL.signs.length cb] 24 (0, 0)) := by rw [hwb, hbb]; exact heap_alloc_new _ _
  have CBb : Hid (∀ W, Below wb.heap.size wb W → W.cell? ⟨bb, 0, none⟩ = some (.int .i64 TL.periods) ∧ W.cell? ⟨bb, 1, none⟩ = some (.slice Ab TL.signs.length cb)) := Lib.hid fun W hW => by
    have p := (hW.block _ (Array.getElem?_eq_some_iff.1 hhwb).1).trans hhwb
    exact ⟨by simp [World.cell?, p], by simp [World.cell?, p]⟩
  have HRWb := Lib.hid (HRYb.out.on hbwb)
  have HBb := Lib.hid (HBUb.out.trans (hbwb.mono HBUb.out.size))
  have Hb := Lib.hid (HUb.out.trans (hbwb.mono HUb.out.size))
  have HWWb := Lib.hid hwb
  have HBBb := Lib.hid hbb
  have HKb := Lib.hid (hub.trans (hbwb.mono hub.size))
  clear hub hgb hwb hbb hbwb hhwb x0 x1
  go_upto_region 5 with fail
  rw [← HWWb.out, ← HBBb.out]
  obtain ⟨x0, x1⟩ := CX.out wb Hb.out
  go_wp2_with fail
  refine (r1Copy_any _ l wb (HRL.out wb HBb.out) HSM.out).mono ?_
  rintro e wbc ⟨vcc, rfl, hrbc, hbbc⟩
  have HRbc := Lib.hid hrbc
  have HCc := Lib.hid hbbc
  clear hrbc
  have HBbc := Lib.hid (HBb.out.trans (hbbc.mono HBb.out.size))
  have Hbc := Lib.hid (Hb.out.trans (hbbc.mono Hb.out.size))
  clear hbbc x0 x1
  obtain ⟨x0, x1⟩ := CX.out wbc Hbc.out
  go_wp2_with fail
  refine (HGR1.out _ wbc HRbc.out).mono ?_
  rintro e uc ⟨yc, rfl, hrc, huc⟩
  have HBUc := Lib.hid (HBbc.out.trans (huc.mono HBbc.out.size))
  have HUc := Lib.hid (Hbc.out.trans (huc.mono Hbc.out.size))
  have HRYc := Lib.hid hrc
  obtain ⟨⟨zc, rfl, hgc⟩, -⟩ := hrc
  obtain ⟨Ac, cc, rfl⟩ := hgc.form
  obtain ⟨wc, hwc⟩ : ∃ W, W = uc.alloc (.cells #[.int .i64 OL.periods, .slice Ac OL.signs.length cc] 24) := ⟨_, rfl⟩
  obtain ⟨bc, hbc⟩ : ∃ b, b = uc.heap.size := ⟨_, rfl⟩
  have hbwc : Below uc.heap.size uc wc := by rw [hwc]; exact (Below.refl _ _).alloc (Nat.le_refl _) _
  have hhwc : wc.heap[bc]? = some (.cells #[.int .i64 OL.periods, .slice Ac OL.signs.length cc] 24 (0, 0)) := by rw [hwc, hbc]; exact heap_alloc_new _ _
  have CBc : Hid (∀ W, Below wc.heap.size wc W → W.cell? ⟨bc, 0, none⟩ = some (.int .i64 OL.periods) ∧ W.cell? ⟨bc, 1, none⟩ = some (.slice Ac OL.signs.length cc)) := Lib.hid fun W hW => by
    have p := (hW.block _ (Array.getElem?_eq_some_iff.1 hhwc).1).trans hhwc
    exact ⟨by simp [World.cell?, p], by simp [World.cell?, p]⟩
  have HRWc := Lib.hid (HRYc.out.on hbwc)
  have HBc := Lib.hid (HBUc.out.trans (hbwc.mono HBUc.out.size))
  have Hc := Lib.hid (HUc.out.trans (hbwc.mono HUc.out.size))
  have HWWc := Lib.hid hwc
  have HBBc := Lib.hid hbc
  have HKc := Lib.hid ((HCc.out.trans (huc.mono HCc.out.size)).trans (hbwc.mono (HCc.out.trans (huc.mono HCc.out.size)).size))
  clear huc hgc hwc hbc hbwc hhwc x0 x1
  go_upto_region 6 with fail
  rw [← HWWc.out, ← HBBc.out]
  obtain ⟨x0, x1⟩ := CX.out wc Hc.out
  go_wp2_with fail
  refine (HGR2.out _ wc (HRL.out wc HBc.out)).mono ?_
  rintro e ud ⟨yd, rfl, hrd, hud⟩
  have HBUd := Lib.hid (HBc.out.trans (hud.mono HBc.out.size))
  have HUd := Lib.hid (Hc.out.trans (hud.mono Hc.out.size))
  have HRYd := Lib.hid hrd
  obtain ⟨⟨zd, rfl, hgd⟩, -⟩ := hrd
  obtain ⟨Ad, cd, rfl⟩ := hgd.form
  obtain ⟨wd, hwd⟩ : ∃ W, W = ud.alloc (.cells #[.int .i64 OL.periods, .slice Ad OL.signs.length cd] 24) := ⟨_, rfl⟩
  obtain ⟨bd, hbd⟩ : ∃ b, b = ud.heap.size := ⟨_, rfl⟩
  have hbwd : Below ud.heap.size ud wd := by rw [hwd]; exact (Below.refl _ _).alloc (Nat.le_refl _) _
  have hhwd : wd.heap[bd]? = some (.cells #[.int .i64 OL.periods, .slice Ad OL.signs.length cd] 24 (0, 0)) := by rw [hwd, hbd]; exact heap_alloc_new _ _
  have CBd : Hid (∀ W, Below wd.heap.size wd W → W.cell? ⟨bd, 0, none⟩ = some (.int .i64 OL.periods) ∧ W.cell? ⟨bd, 1, none⟩ = some (.slice Ad OL.signs.length cd)) := Lib.hid fun W hW => by
    have p := (hW.block _ (Array.getElem?_eq_some_iff.1 hhwd).1).trans hhwd
    exact ⟨by simp [World.cell?, p], by simp [World.cell?, p]⟩
  have HRWd := Lib.hid (HRYd.out.on hbwd)
  have HBd := Lib.hid (HBUd.out.trans (hbwd.mono HBUd.out.size))
  have Hd := Lib.hid (HUd.out.trans (hbwd.mono HUd.out.size))
  have HWWd := Lib.hid hwd
  have HBBd := Lib.hid hbd
  have HKd := Lib.hid (hud.trans (hbwd.mono hud.size))
  clear hud hgd hwd hbd hbwd hhwd x0 x1
  go_upto_region 7 with fail
  rw [← HWWd.out, ← HBBd.out]
  obtain ⟨x0, x1⟩ := CX.out wd Hd.out
  have HKac := Lib.hid (HKb.out.trans (HKc.out.mono HKb.out.size))
  have HKad := Lib.hid (HKac.out.trans (HKd.out.mono HKac.out.size))
  have HKbd := Lib.hid (HKc.out.trans (HKd.out.mono HKc.out.size))
  clear x0 x1
  obtain ⟨a0, a1⟩ := CBa.out wd HKad.out
  obtain ⟨b0, b1⟩ := CBb.out wd HKbd.out
  have HS1 := Lib.hid (r1Same_two _ _ TL wd (HRWa.out.on HKad.out) (HRWb.out.on HKbd.out))
  go_wp2_with fail
  refine HS1.out.mono ?_
  rintro e w8 ⟨rfl, hb8⟩
  have HB8 := Lib.hid (HBd.out.trans (hb8.mono HBd.out.size))
  have HKc8 := Lib.hid (HKd.out.trans (hb8.mono HKd.out.size))
  have HKd8 := Lib.hid hb8
  have HS2 := Lib.hid (r1Same_two _ _ OL w8 (HRWc.out.on HKc8.out) (HRWd.out.on hb8))
  clear hb8 a0 a1 b0 b1
  obtain ⟨a0, a1⟩ := CBc.out w8 HKc8.out
  obtain ⟨b0, b1⟩ := CBd.out w8 HKd8.out
  go_wp2_with fail
  refine HS2.out.mono ?_
  rintro e w9 ⟨rfl, hb9⟩
  have HB9 := Lib.hid (HB8.out.trans (hb9.mono HB8.out.size))
  clear hb9 a0 a1 b0 b1
  go_wp2_with fail
  refine (HWK.out _ HB9.out).mono ?_
  rintro e wz ⟨rfl, hbz⟩
  have HBZ := Lib.hid (HB9.out.trans (hbz.mono HB9.out.size))
  clear hbz
  go_wp2_with fail
  go_ret
  exact ⟨rfl, HBZ.out⟩
end Go.Proofs.YtkmimjngmfdpmaaGreatDoor
