/- ParseGloss of the reference. -/
import Derived.Test.YtpmfjndbckblfaaDoorFormX
import Derived.Test.YtpmfjndbckblfaaDoorParsePlain
import Derived.Test.YtpmfjndbckblfaaDoorReadPlain
import Derived.Test.YtpmfjndbckblfaaDoorRGloss
import Derived.Test.YtpmfjndbckblfaaDoorMgRTails
import Derived.Test.YtpmfjndbckblfaaDoorMgRCheckForm
namespace Go.Proofs.YtpmfjndbckblfaaDoor
open Go.RowKit

theorem Lx.skipP {x : Lx.Lexicon} {s : ByteArray} {i : Nat} {p : Int} (hp : -1 ≤ p) (h : Lx.NotE x s i (p + 1).toNat) (hn : ¬ (Lx.formV x ⟨(i : Int), p, []⟩ = 0 ∧ (Lx.glossV x ⟨(i : Int), p, []⟩).data.toList.isPrefixOf s.data.toList = true)) : Lx.NotE x s i (p + 1 + 1).toNat := by
  have e : (((p + 1).toNat : Nat) : Int) - 1 = p := by omega
  have := Lx.notE_skip (k := (p + 1).toNat) h (by rw [e]; exact hn)
  rwa [show (p + 1 + 1).toNat = (p + 1).toNat + 1 by omega]
theorem Lx.onfP {x : Lx.Lexicon} {s : ByteArray} {i : Nat} {p : Int} (hp : -1 ≤ p) (h : Lx.formV x ⟨(i : Int), p, []⟩ = 0) : Lx.OnF x s i (p + 1).toNat 0 ⟨(i : Int), p, []⟩ := by
  have e : (((p + 1).toNat : Nat) : Int) - 1 = p := by omega
  have := Lx.onf_zero (x := x) (s := s) (i := i) (k := (p + 1).toNat) (by rw [e]; exact h)
  rwa [e] at this
theorem Lx.endP {x : Lx.Lexicon} {s : ByteArray} {i c : Nat} {p : Int} {f : Lx.Form} (hp : -1 ≤ p) (h : Lx.OnF x s i (p + 1).toNat c f) (he : x.clitics.length ≤ c ∨ 3 ≤ f.clitics.length) (hn : Lx.NotE x s i (p + 1).toNat) (hs : s ≠ Lx.glossV x f) : Lx.NotE x s i (p + 1 + 1).toNat := by
  rw [show (p + 1 + 1).toNat = (p + 1).toNat + 1 by omega]
  exact Lx.onf_end h he hn hs
/-- a form stored over another one -/
theorem FBox.put {w : World} {F S0 S1 T : Nat} {a b : Value} {c : Value} {f : Lx.Form} {sv : Value} (hF : w.heap[F]? = some (.cells #[a, b, c] 29 (0, 0))) (h : RdX w (fun b => b < w.heap.size ∧ S1 ≤ b ∧ b ≠ T) 1 encInt sv f.clitics) (hlt : F < S1) (hS : S0 ≤ S1) :
    FBox (((w.setCell ⟨F, 0, none⟩ (.int .i64 f.entry)).setCell ⟨F, 1, none⟩ (.int .i64 f.ending)).setCell ⟨F, 2, none⟩ sv) F S0 f := by
  refine ⟨sv, by simp [World.setCell, Array.getElem?_modify, hF], h.keep fun b hb => ⟨⟨by simp [World.setCell]; exact hb.1, by omega, by omega⟩, ?_⟩⟩
  have h1 : ¬ F = b := by omega
  simp [World.setCell, Array.getElem?_modify, h1]

set_option maxRecDepth 100000 in
set_option maxHeartbeats 16000000 in
theorem rParseGloss_any (vx : Value) (x : Lx.Lexicon) (s : ByteArray) (w : World) (hr : RdL w w.heap.size vx x) (hs : s.size ≤ 1000) :
    Calls Tryd.prog 49 #[vx, .string s] w (RetFG x s w) := by
  have HCK : Hid (∀ (W : World), Below w.heap.size w W → Calls Tryd.prog 15 #[vx] W (RetIB (Lx.checkV x) W)) := Lib.hid fun W hW => rCheck_any vx x W ((hr.below hW).more hW.size)
  have HCF : Hid (∀ (W : World), Below w.heap.size w W → ∀ (vf : Value) (f : Lx.Form), RdF W W.heap.size vf f → Calls Tryd.prog 18 #[vx, vf] W (RetIB (Lx.formV x f) W)) := Lib.hid fun W hW vf f hf => rCheckForm_any vx vf x f W ((hr.below hW).more hW.size) hf
  have HGG : Hid (∀ (W : World), Below w.heap.size w W → ∀ (vf : Value) (f : Lx.Form), RdF W W.heap.size vf f → Lx.formV x f = 0 → Calls Tryd.prog 84 #[vx, vf] W (RetS (Lx.glossV x f) W)) := Lib.hid fun W hW vf f hf hv => rgloss_any vx vf x f W ((hr.below hW).more hW.size) hf hv
  obtain ⟨⟨v0, v1, v2, rfl, ⟨A0, c0, rfl, hl0, hm0, -⟩, ⟨A1, c1, rfl, hl1, hm1, -⟩, ⟨A2, c2, rfl, hl2, hm2, -⟩⟩, -, -, -⟩ := hr
  have hn0 : x.entries.length ≤ 9223372036854775807 := by omega
  have hn1 : x.endings.length ≤ 9223372036854775807 := by omega
  have hn2 : x.clitics.length ≤ 9223372036854775807 := by omega
  clear hl0 hm0 hl1 hm1 hl2 hm2
  have CX : Hid (∀ (W : World), W.heap[w.heap.size]? = some (.cells #[.slice A0 x.entries.length c0, .slice A1 x.endings.length c1, .slice A2 x.clitics.length c2] 26 (0, 0)) →
      W.cell? ⟨w.heap.size, 0, none⟩ = some (.slice A0 x.entries.length c0) ∧ W.cell? ⟨w.heap.size, 1, none⟩ = some (.slice A1 x.endings.length c1) ∧ W.cell? ⟨w.heap.size, 2, none⟩ = some (.slice A2 x.clitics.length c2)) :=
    Lib.hid fun W h => ⟨by simp [World.cell?, h], by simp [World.cell?, h], by simp [World.cell?, h]⟩
  have hal : Below w.heap.size w ((w.alloc (.cells #[.slice A0 x.entries.length c0, .slice A1 x.endings.length c1, .slice A2 x.clitics.length c2] 26)).alloc (.cells #[.int .i64 0, .int .i64 0, .slice none 0 0] 29)) := ((Below.refl _ _).alloc (Nat.le_refl _) _).alloc (by simp) _
  generalize hcv : Lx.checkV x = cv at HCK
  have HCV := Lib.hid hcv
  clear hcv
  go_enter Tryd.func49, Tryd.ntmps49
  go_wp2_with fail
  refine (HCK.out _ hal).mono ?_
  rintro e1 w1 ⟨rfl, hb1⟩
  have hs1 : w.heap.size + 2 ≤ w1.heap.size := by have := hb1.size; simp at this; omega
  have HB1 := Lib.hid (hal.trans (hb1.mono (by simp; omega)))
  have HXw1 := Lib.hid ((hb1.block w.heap.size (by simp; omega)).trans (start_fst w (.cells #[.slice A0 x.entries.length c0, .slice A1 x.endings.length c1, .slice A2 x.clitics.length c2] 26) (.cells #[.int .i64 0, .int .i64 0, .slice none 0 0] 29)))
  have HRw1 := Lib.hid ((hb1.block (w.heap.size + 1) (by simp)).trans (start_res' w (.cells #[.slice A0 x.entries.length c0, .slice A1 x.endings.length c1, .slice A2 x.clitics.length c2] 26) (.cells #[.int .i64 0, .int .i64 0, .slice none 0 0] 29)))
  have HZR : Hid (∀ W, Below w1.heap.size w1 W → Below w.heap.size w (((W.setCell ⟨w.heap.size + 1, 0, none⟩ (.int .i64 0)).setCell ⟨w.heap.size + 1, 1, none⟩ (.int .i64 0)).setCell ⟨w.heap.size + 1, 2, none⟩ (.slice none 0 0))) :=
    Lib.hid fun W hW => (((HB1.out.trans (hW.mono HB1.out.size)).setCell (by simp) _).setCell (by simp) _).setCell (by simp) _
  clear hb1 hal
  by_cases hz : cv = 0
  · have hq : (cv == 0) = true := by simp [hz]
    have hq' : (cv != 0) = false := by simp [hz]
    have HC0 : Hid (Lx.checkV x = 0) := Lib.hid (HCV.out.trans hz)
    clear hz
    go_wp2_with fail
    go_loopg [7] x.entries.length (fun g iv wr => ∃ k : Nat, k ≤ x.entries.length ∧ g = x.entries.length - k ∧ iv = .int .i64 k ∧ Below w1.heap.size w1 wr ∧ Lx.NotB x s k)
    case atStart => exact ⟨0, Nat.zero_le _, rfl, rfl, Below.refl _ _, Lx.notB_zero x s⟩
    case round =>
      rename World => wr
      obtain ⟨i, hi, rfl, rfl, hbr, hnb⟩ := hrel
      have HBR := Lib.hid hbr
      have HNB := Lib.hid hnb
      have HXr := Lib.hid ((hbr.block w.heap.size (by omega)).trans HXw1.out)
      obtain ⟨x0, x1, x2⟩ := CX.out wr HXr.out
      by_cases hlt : i < x.entries.length
      · have hltI : (i : Int) < (x.entries.length : Int) := by omega
        clear hbr hnb hlt
        go_wp2_with fail
        clear x0 x1 x2
        go_loopg [8] (x.endings.length + 1) (fun g kv wq => ∃ p : Int, -1 ≤ p ∧ p ≤ x.endings.length ∧ g = ((x.endings.length : Int) - p).toNat ∧ kv = .int .i64 p ∧ Below w1.heap.size w1 wq ∧ Lx.NotE x s i (p + 1).toNat)
        case atStart => exact ⟨-1, by omega, by omega, by omega, rfl, HBR.out, Lx.notE_zero HNB.out⟩
        case round =>
          rename World => wq
          obtain ⟨p, hp1, hp2, rfl, rfl, hbq, hne⟩ := hrel
          have HBQ := Lib.hid hbq
          have HNE := Lib.hid hne
          have HBW := Lib.hid (HB1.out.trans (hbq.mono HB1.out.size))
          have HXq := Lib.hid ((hbq.block w.heap.size (by omega)).trans HXw1.out)
          obtain ⟨y0, y1, y2⟩ := CX.out wq HXq.out
          by_cases hlp : p < (x.endings.length : Int)
          · obtain ⟨wf, hwf⟩ : ∃ wf, wf = wq.alloc (.cells #[.int .i64 (i : Int), .int .i64 p, .slice none 0 0] 29) := ⟨_, rfl⟩
            have hbf : Below wq.heap.size wq wf := by rw [hwf]; exact (Below.refl _ _).alloc (Nat.le_refl _) _
            have hsf : wq.heap.size < wf.heap.size := by rw [hwf]; simp
            have HWF := Lib.hid hwf
            have hfh : wf.heap[wq.heap.size]? = some (.cells #[.int .i64 (i : Int), .int .i64 p, .slice none 0 0] 29 (0, 0)) := by rw [hwf]; exact heap_alloc_new _ _
            have HFH := Lib.hid hfh
            have HFB : Hid (FBox wf wq.heap.size w1.heap.size ⟨(i : Int), p, []⟩) := Lib.hid ⟨_, hfh, none, 0, rfl, by simp, by simp, fun h => absurd h (by simp)⟩
            have HBF := Lib.hid (hbq.trans (hbf.mono hbq.size))
            have HBFW := Lib.hid (HBW.out.trans ((hbf.mono HBW.out.size)))
            have HXf := Lib.hid ((hbf.block w.heap.size (by have := hbq.size; omega)).trans HXq.out)
            have hqs1 : w1.heap.size ≤ wq.heap.size := hbq.size
            clear hbq hne hwf hbf hfh
            go_upto_region 11 with fail
            rw [← HWF.out]
            clear y0 y1 y2
            obtain ⟨y0, y1, y2⟩ := CX.out wf HXf.out
            have HRF0 : Hid (RdF wf wf.heap.size (.agg #[.int .i64 (i : Int), .int .i64 p, .slice none 0 0]) ⟨(i : Int), p, []⟩) := Lib.hid ⟨⟨_, rfl, none, 0, rfl, by simp, by simp, fun h => absurd h (by simp)⟩⟩
            obtain ⟨f0, f1, f2, -, -, -⟩ := form_cells HFH.out
            go_wp2_with fail
            refine (HCF.out wf HBFW.out _ _ HRF0.out).mono ?_
            rintro e2 w2 ⟨rfl, hb2⟩
            have HB2 := Lib.hid (HBF.out.trans (hb2.mono HBF.out.size))
            have HBW2 := Lib.hid (HBFW.out.trans (hb2.mono HBFW.out.size))
            have HX2 := Lib.hid ((hb2.block w.heap.size (by omega)).trans HXf.out)
            have HFH2 := Lib.hid ((hb2.block wq.heap.size (by omega)).trans HFH.out)
            have HFB2 := Lib.hid (HFB.out.keep hb2)
            clear y0 y1 y2 f0 f1 f2 hb2
            obtain ⟨y0, y1, y2⟩ := CX.out w2 HX2.out
            obtain ⟨f0, f1, f2, -, -, -⟩ := form_cells HFH2.out
            by_cases hv : Lx.formV x ⟨(i : Int), p, []⟩ = 0
            · have HV := Lib.hid hv
              rw [hv]
              clear hv
              have HRF2 : Hid (RdF w2 w2.heap.size (.agg #[.int .i64 (i : Int), .int .i64 p, .slice none 0 0]) ⟨(i : Int), p, []⟩) := Lib.hid ⟨⟨_, rfl, none, 0, rfl, by simp, by simp, fun h => absurd h (by simp)⟩⟩
              have hgs := Lx.glossV_size HV.out
              obtain ⟨g0, hg0⟩ : ∃ g0, g0 = Lx.glossV x ⟨(i : Int), p, []⟩ := ⟨_, rfl⟩
              have HG0 := Lib.hid hg0
              rw [← hg0] at hgs
              clear hg0
              go_wp2_with fail
              refine (HGG.out w2 HBW2.out _ _ HRF2.out HV.out).mono ?_
              rw [← HG0.out]
              rintro e3 w3 ⟨rfl, hb3⟩
              have HB3 := Lib.hid (HB2.out.trans (hb3.mono HB2.out.size))
              have HFB3 := Lib.hid (HFB2.out.keep hb3)
              clear y0 y1 y2 f0 f1 f2 hb3
              go_wp2_with fail
              refine (rbegins_any s g0 w3 (by simp only [maxLen]; omega) (by simp only [maxLen]; omega)).mono ?_
              cases hp : g0.data.toList.isPrefixOf s.data.toList
              · have HNX : Hid (Lx.NotE x s i (p + 1 + 1).toNat) := Lib.hid (Lx.skipP hp1 HNE.out (fun q => by rw [← HG0.out, hp] at q; simp at q))
                clear hp
                rintro e4 w4 ⟨rfl, rfl⟩
                go_wp2_with fail
                go_roundg ((x.endings.length : Int) - (p + 1)).toNat
                case measure => omega
                case rel => exact ⟨p + 1, by omega, by omega, rfl, by go_num, HB3.out, HNX.out⟩
              · clear hp
                rintro e4 w4 ⟨rfl, rfl⟩
                have HON0 := Lib.hid (Lx.onfP (s := s) hp1 HV.out)
                clear hgs
                go_wp2_with fail
                go_loopg [10] x.clitics.length (fun g cv wz => ∃ (c : Nat) (f : Lx.Form), c ≤ x.clitics.length ∧ g = x.clitics.length - c ∧ cv = .int .i64 c ∧ Below w1.heap.size w1 wz ∧ FBox wz wq.heap.size w1.heap.size f ∧ Lx.OnF x s i (p + 1).toNat c f)
                case atStart => exact ⟨0, ⟨(i : Int), p, []⟩, Nat.zero_le _, rfl, rfl, HB3.out, HFB3.out, HON0.out⟩
                case round =>
                  rename World => wz
                  obtain ⟨c, f, hc, rfl, rfl, hbz, hfb, hon⟩ := hrel
                  have HBZ := Lib.hid hbz
                  have HBZW := Lib.hid (HB1.out.trans (hbz.mono HB1.out.size))
                  have HON := Lib.hid hon
                  have HXz := Lib.hid ((hbz.block w.heap.size (by omega)).trans HXw1.out)
                  have HRz := Lib.hid ((hbz.block (w.heap.size + 1) (by omega)).trans HRw1.out)
                  have hsz : w1.heap.size ≤ wz.heap.size := hbz.size
                  have hqs := HBQ.out.size
                  obtain ⟨sv, hfz, hrz⟩ := id hfb
                  obtain ⟨Af, cf, rfl, hlf, hmf, -⟩ := id hrz
                  have hF : wq.heap.size < wz.heap.size := (Array.getElem?_eq_some_iff.1 hfz).1
                  have HFZ := Lib.hid hfz
                  obtain ⟨f0, f1, f2, k0, k1, k2⟩ := form_cells hfz
                  obtain ⟨y0, y1, y2⟩ := CX.out wz HXz.out
                  have hf3 := hon.few
                  have HFIN : Hid (∀ g : ByteArray, g = Lx.glossV x f → g.size ≤ 80) := Lib.hid fun g e => by rw [e]; exact Lx.glossV_size hon.val
                  clear hbz hfb hon hfz hmf
                  by_cases hlc : c < x.clitics.length
                  · have hlcI : (c : Int) < (x.clitics.length : Int) := by omega
                    by_cases h3 : f.clitics.length < 3
                    · have h3I : (f.clitics.length : Int) < 3 := by omega
                      obtain ⟨wT, hwT⟩ : ∃ wT, wT = wz.alloc (.cells #[.int .i64 f.entry, .int .i64 f.ending, .slice Af f.clitics.length cf] 29) := ⟨_, rfl⟩
                      have hsT : wT.heap.size = wz.heap.size + 1 := by rw [hwT]; simp
                      have HST := Lib.hid hsT
                      have hbT : Below wz.heap.size wz wT := by rw [hwT]; exact (Below.refl _ _).alloc (Nat.le_refl _) _
                      have hTh : wT.heap[wz.heap.size]? = some (.cells #[.int .i64 f.entry, .int .i64 f.ending, .slice Af f.clitics.length cf] 29 (0, 0)) := by rw [hwT]; exact heap_alloc_new _ _
                      have HWT := Lib.hid hwT
                      have HBT := Lib.hid hbT
                      have HTH := Lib.hid hTh
                      have hFT : wq.heap.size < wT.heap.size := by omega
                      obtain ⟨f0', f1', f2', -, -, -⟩ := form_cells ((hbT.block wq.heap.size hF).trans HFZ.out)
                      obtain ⟨ii, hii, hzi, hsi, hbi⟩ := info_parts info_int
                      clear hwT
                      go_upto_region 16 with fail
                      rw [← HWT.out]
                      clear f0 f1 f2 k0 k1 k2 y0 y1 y2 hTh hbT
                      go_wp2_with (at_builtin; go_must (refine wpList_append_rd (enc := encInt) rfl (.tmp 61) (.tmp 63) _ rfl (wz.heap.size + 1) 3 ii _ 1 8 len_int one_int Tryd.underlying27 hii hzi hsi hbi rfl (by decide) (.slice (some ⟨wz.heap.size + 1, 0, none⟩) 0 0) 0 [] rfl ?ho (wz.heap.size) _ f.clitics rfl ?hr ?h63 ?hb ?hB ?_))
                      case ho => have q := own_empty (w := wT) (base := wz.heap.size + 1) (e := 3) (size := 1) (by omega); rwa [HST.out] at q
                      case hr => exact (hrz.to (fun b hb => hb.1)).below (HBT.out.trans (((Below.refl _ _).alloc (Nat.le_refl _) _).mono (by omega)))
                      case h63 => simp only [maxLen]; omega
                      case hb => omega
                      case hB => simp; omega
                      intro v4 w4 hown4 hg4 hat4
                      have hown4' : w4.ownsRow (wz.heap.size + 1) 3 1 v4 f.clitics.length (f.clitics.flatMap encInt) := by simpa using hown4
                      obtain ⟨A3, c3, rfl⟩ := own_form hown4'
                      have hsz4 : wT.heap.size + 1 ≤ w4.heap.size := by have := hg4.size; simp at this; omega
                      have HB4 : Hid (Below wT.heap.size wT w4) := Lib.hid (((Below.refl _ _).alloc (Nat.le_refl _) _).grown hg4 (by simp) (fun k hk => by simp [Value.ownBlock] at hk; omega))
                      have HOWN4 := Lib.hid hown4'
                      clear hown4 hown4' hg4 hat4
                      go_wp2_with (at_builtin; go_must (refine wpList_append_rd (enc := encInt) rfl (.tmp 64) (.tmp 66) _ rfl (wz.heap.size + 1) 3 ii _ 1 8 len_int one_int Tryd.underlying27 hii hzi hsi hbi rfl (by decide) (.slice A3 f.clitics.length c3) f.clitics.length (f.clitics.flatMap encInt) rfl ?ho2 (w4.heap.size + 1) _ [(c : Int)] rfl ?hr2 ?h632 ?hb2 ?hB2 ?_))
                      case ho2 => exact HOWN4.out.alloc _
                      case hr2 => exact rds_block (xs := [(c : Int)]) len_int (heap_alloc_new _ _) rfl (by omega) (Nat.le_refl 1) (by decide)
                      case h632 => simp only [maxLen]; show f.clitics.length + 1 ≤ _; omega
                      case hb2 => show (f.clitics.length + 1) * 8 ≤ _; omega
                      case hB2 => simp; omega
                      intro v5 w5 hown5 hg5 hat5
                      have hown5' : w5.ownsRow (wz.heap.size + 1) 3 1 v5 (f.clitics ++ [(c : Int)]).length ((f.clitics ++ [(c : Int)]).flatMap encInt) := by
                        rw [List.length_append, List.flatMap_append]; exact hown5
                      have hsz5 : w4.heap.size + 1 ≤ w5.heap.size := by have := hg5.size; simp at this; omega
                      have h45 : Below wT.heap.size w4 w5 := ((Below.refl _ _).alloc (by omega) _).grown hg5 (by simp; omega) (fun k hk => by have := (HOWN4.out.lt k hk).1; omega)
                      have hT5 : Below wT.heap.size wT w5 := HB4.out.trans h45
                      obtain ⟨A6, c6, rfl⟩ := own_form hown5'
                      have hT5h := (hT5.block wz.heap.size (by omega)).trans HTH.out
                      obtain ⟨n0, n1, n2, m0, m1, m2⟩ := form_cells hT5h
                      obtain ⟨w6, hw6⟩ : ∃ w6, w6 = w5.setCell ⟨wz.heap.size, 2, none⟩ (.slice A6 (f.clitics.length + 1) c6) := ⟨_, rfl⟩
                      have hz5 : Below wz.heap.size wz w5 := HBT.out.trans (hT5.mono (by omega))
                      have hb6 : Below wz.heap.size wz w6 := by rw [hw6]; exact hz5.setCell (by simp) _
                      have hs6 : w6.heap.size = w5.heap.size := by rw [hw6]; simp [World.setCell]
                      have h6h : w6.heap[wz.heap.size]? = some (.cells #[.int .i64 f.entry, .int .i64 f.ending, .slice A6 (f.clitics.length + 1) c6] 29 (0, 0)) := by rw [hw6]; simp [World.setCell, Array.getElem?_modify, hT5h]
                      have hrx6 : RdX w6 (fun b => b < w6.heap.size ∧ wz.heap.size ≤ b ∧ b ≠ wz.heap.size) 1 encInt (.slice A6 (f.clitics.length + 1) c6) (f.clitics ++ [(c : Int)]) := by
                        have q := rdx_of_own len_int hown5'
                        rw [List.length_append, List.length_singleton] at q
                        refine q.keep fun b hb => ⟨⟨by omega, by omega, by omega⟩, ?_⟩
                        have h1 : ¬ wz.heap.size = b := by omega
                        rw [hw6]
                        simp [World.setCell, Array.getElem?_modify, h1]
                      have HW6 := Lib.hid hw6
                      have HB6 := Lib.hid hb6
                      have H6H := Lib.hid h6h
                      have HRX6 := Lib.hid hrx6
                      have HB6W := Lib.hid (HBZW.out.trans (hb6.mono HBZW.out.size))
                      have HX6 := Lib.hid ((hb6.block w.heap.size (by omega)).trans HXz.out)
                      have HF6 := Lib.hid ((hb6.block wq.heap.size hF).trans HFZ.out)
                      have HVM := Lib.hid (Lx.onf_more HON.out h3 hlc)
                      have HHIT : Hid (Lx.hitB x s.data.toList f c = true → Lx.OnF x s i (p + 1).toNat (c + 1) (Lx.more f c)) := Lib.hid (Lx.onf_hit HON.out h3 hlc)
                      have HMISS : Hid (Lx.hitB x s.data.toList f c = false → Lx.OnF x s i (p + 1).toNat (c + 1) f) := Lib.hid (Lx.onf_miss HON.out h3 hlc)
                      have hgm := Lx.glossV_size HVM.out
                      obtain ⟨gm, hgmE⟩ : ∃ gm, gm = Lx.glossV x (Lx.more f c) := ⟨_, rfl⟩
                      rw [← hgmE] at hgm
                      have HGM := Lib.hid hgmE
                      have HITB : Hid (Lx.hitB x s.data.toList f c = ((gm ++ ⟨#[61]⟩).data.toList.isPrefixOf s.data.toList || decide (s = gm))) := Lib.hid (by
                        unfold Lx.hitB
                        rw [← hgmE, ByteArray.data_append, Array.toList_append]
                        congr 1
                        rw [Bool.eq_iff_iff, decide_eq_true_eq, decide_eq_true_eq]
                        exact ⟨fun e => Lx.bytes_eq' e, fun e => by rw [e]⟩)
                      have hne : wq.heap.size ≠ wz.heap.size := by omega
                      clear hsT hown5 hown5' hg5 hat5 h45 hT5 hT5h hw6 hz5 hb6 h6h hrx6 hgmE
                      clear f0' f1' f2'
                      obtain ⟨f0, f1, f2, -, -, -⟩ := form_cells HF6.out
                      go_upto_region 17 with fail
                      rw [← HW6.out]
                      clear n0 n1 n2 m0 m1 m2
                      obtain ⟨n0, n1, n2, -, -, -⟩ := form_cells H6H.out
                      obtain ⟨y0, y1, y2⟩ := CX.out w6 HX6.out
                      have HRM6 : Hid (RdF w6 w6.heap.size (.agg #[.int .i64 f.entry, .int .i64 f.ending, .slice A6 (f.clitics.length + 1) c6]) (Lx.more f c)) := Lib.hid (form_rd (f := Lx.more f c) HRX6.out)
                      go_wp2_with fail
                      refine (HGG.out w6 HB6W.out _ _ HRM6.out HVM.out).mono ?_
                      rw [← HGM.out]
                      rintro e7 w7 ⟨rfl, hb7⟩
                      have HB7 := Lib.hid (HB6.out.trans (hb7.mono HB6.out.size))
                      have HB7W := Lib.hid (HB6W.out.trans (hb7.mono HB6W.out.size))
                      have HX7 := Lib.hid ((hb7.block w.heap.size (by have := HB6.out.size; omega)).trans HX6.out)
                      have HF7 := Lib.hid ((hb7.block wq.heap.size (by have := HB6.out.size; omega)).trans HF6.out)
                      have h6lt := (Array.getElem?_eq_some_iff.1 H6H.out).1
                      have H7H := Lib.hid ((hb7.block wz.heap.size h6lt).trans H6H.out)
                      have HRX7 : Hid (RdX w7 (fun b => b < w7.heap.size ∧ wz.heap.size ≤ b ∧ b ≠ wz.heap.size) 1 encInt (.slice A6 (f.clitics.length + 1) c6) (f.clitics ++ [(c : Int)])) := Lib.hid (HRX6.out.keep fun b hb => ⟨⟨by have := hb7.size; omega, hb.2⟩, hb7.block b hb.1⟩)
                      clear n0 n1 n2 y0 y1 y2 f0 f1 f2 hb7 h6lt
                      go_wp2_with fail
                      have hgq : (gm ++ ⟨#[61]⟩ : ByteArray).size ≤ maxLen := by
                        have e : (gm ++ ⟨#[61]⟩ : ByteArray).size = gm.size + 1 := by rw [ByteArray.size_append]; rfl
                        rw [e]; unfold maxLen; omega
                      have HBG := Lib.hid (rbegins_any s (gm ++ ⟨#[61]⟩) w7 (by simp only [maxLen]; omega) hgq)
                      clear hgq
                      refine HBG.out.mono ?_
                      obtain ⟨bp, hbp⟩ : ∃ bp, bp = (gm ++ ⟨#[61]⟩).data.toList.isPrefixOf s.data.toList := ⟨_, rfl⟩
                      have HBP := Lib.hid hbp
                      rw [← hbp]
                      clear hbp
                      rintro e8 w8 ⟨rfl, rfl⟩
                      obtain ⟨n0, n1, n2, -, -, -⟩ := form_cells H7H.out
                      obtain ⟨y0, y1, y2⟩ := CX.out w7 HX7.out
                      obtain ⟨f0, f1, f2, k0, k1, k2⟩ := form_cells HF7.out
                      cases bp
                      · have HRM7 : Hid (RdF w7 w7.heap.size (.agg #[.int .i64 f.entry, .int .i64 f.ending, .slice A6 (f.clitics.length + 1) c6]) (Lx.more f c)) := Lib.hid (form_rd (f := Lx.more f c) HRX7.out)
                        go_wp2_with fail
                        refine (HGG.out w7 HB7W.out _ _ HRM7.out HVM.out).mono ?_
                        rw [← HGM.out]
                        rintro e8 w8 ⟨rfl, hb8⟩
                        have HB8 := Lib.hid (HB7.out.trans (hb8.mono HB7.out.size))
                        have HF8 := Lib.hid ((hb8.block wq.heap.size (by have := HB7.out.size; omega)).trans HF7.out)
                        have h7lt := (Array.getElem?_eq_some_iff.1 H7H.out).1
                        have H8H := Lib.hid ((hb8.block wz.heap.size h7lt).trans H7H.out)
                        have HRX8 : Hid (RdX w8 (fun b => b < w8.heap.size ∧ wz.heap.size ≤ b ∧ b ≠ wz.heap.size) 1 encInt (.slice A6 (f.clitics.length + 1) c6) (f.clitics ++ [(c : Int)])) := Lib.hid (HRX7.out.keep fun b hb => ⟨⟨by have := hb8.size; omega, hb.2⟩, hb8.block b hb.1⟩)
                        have HRZ8 := Lib.hid (hrz.keep (w' := w8) (ok' := fun b => b < w8.heap.size ∧ w1.heap.size ≤ b ∧ b ≠ wq.heap.size) fun b hk => ⟨⟨Nat.lt_of_lt_of_le hk.1 HB8.out.size, hk.2⟩, HB8.out.block b hk.1⟩)
                        clear n0 n1 n2 y0 y1 y2 f0 f1 f2 k0 k1 k2 hb8 h7lt
                        obtain ⟨n0, n1, n2, -, -, -⟩ := form_cells H8H.out
                        obtain ⟨f0, f1, f2, k0, k1, k2⟩ := form_cells HF8.out
                        by_cases heq : s = gm
                        · have HNX := Lib.hid (HHIT.out (by rw [HITB.out, ← HBP.out]; simp [heq]))
                          have HPUT := Lib.hid (FBox.put (S0 := w1.heap.size) (f := Lx.more f c) HF8.out HRX8.out hF hsz)
                          have HBN := Lib.hid ((((HBZ.out.trans (HB8.out.mono hsz)).setCell (p := ⟨wq.heap.size, 0, none⟩) hqs (.int .i64 f.entry)).setCell (p := ⟨wq.heap.size, 1, none⟩) hqs (.int .i64 f.ending)).setCell (p := ⟨wq.heap.size, 2, none⟩) hqs (.slice A6 (f.clitics.length + 1) c6))
                          subst heq
                          go_wp2_with fail
                          go_roundg (x.clitics.length - (c + 1))
                          case measure => omega
                          case rel => exact ⟨c + 1, Lx.more f c, by omega, rfl, by go_num, HBN.out, HPUT.out, HNX.out⟩
                        · have HNX := Lib.hid (HMISS.out (by rw [HITB.out, ← HBP.out]; simp [heq]))
                          have HFB8 : Hid (FBox w8 wq.heap.size w1.heap.size f) := Lib.hid ⟨_, HF8.out, HRZ8.out⟩
                          have HBN := Lib.hid (HBZ.out.trans (HB8.out.mono hsz))
                          have hq1 := Lx.toList_ne heq
                          go_wp2_with fail
                          go_roundg (x.clitics.length - (c + 1))
                          case measure => omega
                          case rel => exact ⟨c + 1, f, by omega, rfl, by go_num, HBN.out, HFB8.out, HNX.out⟩
                      · have HNX := Lib.hid (HHIT.out (by rw [HITB.out, ← HBP.out]; rfl))
                        have HPUT := Lib.hid (FBox.put (S0 := w1.heap.size) (f := Lx.more f c) HF7.out HRX7.out hF hsz)
                        have HBN := Lib.hid ((((HBZ.out.trans (HB7.out.mono hsz)).setCell (p := ⟨wq.heap.size, 0, none⟩) hqs (.int .i64 f.entry)).setCell (p := ⟨wq.heap.size, 1, none⟩) hqs (.int .i64 f.ending)).setCell (p := ⟨wq.heap.size, 2, none⟩) hqs (.slice A6 (f.clitics.length + 1) c6))
                        go_wp2_with fail
                        go_roundg (x.clitics.length - (c + 1))
                        case measure => omega
                        case rel => exact ⟨c + 1, Lx.more f c, by omega, rfl, by go_num, HBN.out, HPUT.out, HNX.out⟩
                    · have h3I : ¬ (f.clitics.length : Int) < 3 := by omega
                      obtain ⟨gf, hgf⟩ : ∃ gf, gf = Lx.glossV x f := ⟨_, rfl⟩
                      have HGF := Lib.hid hgf
                      have HRF := Lib.hid (form_rd hrz)
                      have HEND : Hid (s ≠ Lx.glossV x f → Lx.NotE x s i (p + 1 + 1).toNat) := Lib.hid fun hne => Lx.endP hp1 HON.out (by omega) HNE.out hne
                      clear hgf
                      go_wp2_with fail
                      refine (HGG.out wz HBZW.out _ f HRF.out HON.out.val).mono ?_
                      rw [← HGF.out]
                      rintro e9 w9 ⟨rfl, hb9⟩
                      have HB9 := Lib.hid (HBZ.out.trans (hb9.mono HBZ.out.size))
                      have HX9 := Lib.hid ((hb9.block w.heap.size (by omega)).trans HXz.out)
                      have HF9 := Lib.hid ((hb9.block wq.heap.size hF).trans HFZ.out)
                      have HR9 := Lib.hid ((hb9.block (w.heap.size + 1) (by omega)).trans HRz.out)
                      have HRX9 := Lib.hid (hrz.keep (w' := w9) (ok' := fun b => b < w9.heap.size ∧ w1.heap.size ≤ b ∧ b ≠ wq.heap.size) fun b hk => ⟨⟨Nat.lt_of_lt_of_le hk.1 hb9.size, hk.2⟩, hb9.block b hk.1⟩)
                      clear f0 f1 f2 k0 k1 k2 y0 y1 y2 hb9
                      by_cases heq : s = gf
                      · subst heq
                        obtain ⟨f0, f1, f2, -, -, -⟩ := form_cells HF9.out
                        obtain ⟨r0, r1, r2, z0, z1, z2⟩ := form_cells HR9.out
                        have HBN : Hid (Below w.heap.size w (((w9.setCell ⟨w.heap.size + 1, 0, none⟩ (.int .i64 f.entry)).setCell ⟨w.heap.size + 1, 1, none⟩ (.int .i64 f.ending)).setCell ⟨w.heap.size + 1, 2, none⟩ (.slice Af f.clitics.length cf))) :=
                          Lib.hid ((((HB1.out.trans (HB9.out.mono HB1.out.size)).setCell (by simp) _).setCell (by simp) _).setCell (by simp) _)
                        have HXN : Hid (RdX (((w9.setCell ⟨w.heap.size + 1, 0, none⟩ (.int .i64 f.entry)).setCell ⟨w.heap.size + 1, 1, none⟩ (.int .i64 f.ending)).setCell ⟨w.heap.size + 1, 2, none⟩ (.slice Af f.clitics.length cf)) (fun b => b < (((w9.setCell ⟨w.heap.size + 1, 0, none⟩ (.int .i64 f.entry)).setCell ⟨w.heap.size + 1, 1, none⟩ (.int .i64 f.ending)).setCell ⟨w.heap.size + 1, 2, none⟩ (.slice Af f.clitics.length cf)).heap.size ∧ w.heap.size ≤ b) 1 encInt (.slice Af f.clitics.length cf) f.clitics) := Lib.hid (HRX9.out.keep fun b hb => ⟨⟨by simp [World.setCell]; exact hb.1, by have := hb.2.1; omega⟩, by
                          have h1 : ¬ w.heap.size + 1 = b := by have := hb.2.1; omega
                          simp [World.setCell, Array.getElem?_modify, h1]⟩)
                        go_wp2_with fail
                        refine bodyPost_ret (v := .tuple #[.agg #[.int .i64 f.entry, .int .i64 f.ending, .slice Af f.clitics.length cf], .int .i64 0]) (by simp [results, Tryd.results49, go_sem, r0, r1, r2]) rfl ⟨_, f, 0, rfl, ?_, ⟨_, rfl, HXN.out⟩, HBN.out⟩
                        exact Lx.read_form HON.out.val HGF.out
                      · have HNX := Lib.hid (HEND.out (by rw [← HGF.out]; exact heq))
                        have hq1 := Lx.toList_ne heq
                        go_wp2_with fail
                        go_roundg ((x.endings.length : Int) - (p + 1)).toNat
                        case measure => omega
                        case rel => exact ⟨p + 1, by omega, by omega, rfl, by go_num, HB9.out, HNX.out⟩
                  · have hlcI : ¬ (c : Int) < (x.clitics.length : Int) := by omega
                    obtain ⟨gf, hgf⟩ : ∃ gf, gf = Lx.glossV x f := ⟨_, rfl⟩
                    have HGF := Lib.hid hgf
                    have HRF := Lib.hid (form_rd hrz)
                    have HEND : Hid (s ≠ Lx.glossV x f → Lx.NotE x s i (p + 1 + 1).toNat) := Lib.hid fun hne => Lx.endP hp1 HON.out (by omega) HNE.out hne
                    clear hgf
                    go_wp2_with fail
                    refine (HGG.out wz HBZW.out _ f HRF.out HON.out.val).mono ?_
                    rw [← HGF.out]
                    rintro e9 w9 ⟨rfl, hb9⟩
                    have HB9 := Lib.hid (HBZ.out.trans (hb9.mono HBZ.out.size))
                    have HX9 := Lib.hid ((hb9.block w.heap.size (by omega)).trans HXz.out)
                    have HF9 := Lib.hid ((hb9.block wq.heap.size hF).trans HFZ.out)
                    have HR9 := Lib.hid ((hb9.block (w.heap.size + 1) (by omega)).trans HRz.out)
                    have HRX9 := Lib.hid (hrz.keep (w' := w9) (ok' := fun b => b < w9.heap.size ∧ w1.heap.size ≤ b ∧ b ≠ wq.heap.size) fun b hk => ⟨⟨Nat.lt_of_lt_of_le hk.1 hb9.size, hk.2⟩, hb9.block b hk.1⟩)
                    clear f0 f1 f2 k0 k1 k2 y0 y1 y2 hb9
                    by_cases heq : s = gf
                    · subst heq
                      obtain ⟨f0, f1, f2, -, -, -⟩ := form_cells HF9.out
                      obtain ⟨r0, r1, r2, z0, z1, z2⟩ := form_cells HR9.out
                      have HBN : Hid (Below w.heap.size w (((w9.setCell ⟨w.heap.size + 1, 0, none⟩ (.int .i64 f.entry)).setCell ⟨w.heap.size + 1, 1, none⟩ (.int .i64 f.ending)).setCell ⟨w.heap.size + 1, 2, none⟩ (.slice Af f.clitics.length cf))) :=
                        Lib.hid ((((HB1.out.trans (HB9.out.mono HB1.out.size)).setCell (by simp) _).setCell (by simp) _).setCell (by simp) _)
                      have HXN : Hid (RdX (((w9.setCell ⟨w.heap.size + 1, 0, none⟩ (.int .i64 f.entry)).setCell ⟨w.heap.size + 1, 1, none⟩ (.int .i64 f.ending)).setCell ⟨w.heap.size + 1, 2, none⟩ (.slice Af f.clitics.length cf)) (fun b => b < (((w9.setCell ⟨w.heap.size + 1, 0, none⟩ (.int .i64 f.entry)).setCell ⟨w.heap.size + 1, 1, none⟩ (.int .i64 f.ending)).setCell ⟨w.heap.size + 1, 2, none⟩ (.slice Af f.clitics.length cf)).heap.size ∧ w.heap.size ≤ b) 1 encInt (.slice Af f.clitics.length cf) f.clitics) := Lib.hid (HRX9.out.keep fun b hb => ⟨⟨by simp [World.setCell]; exact hb.1, by have := hb.2.1; omega⟩, by
                        have h1 : ¬ w.heap.size + 1 = b := by have := hb.2.1; omega
                        simp [World.setCell, Array.getElem?_modify, h1]⟩)
                      go_wp2_with fail
                      refine bodyPost_ret (v := .tuple #[.agg #[.int .i64 f.entry, .int .i64 f.ending, .slice Af f.clitics.length cf], .int .i64 0]) (by simp [results, Tryd.results49, go_sem, r0, r1, r2]) rfl ⟨_, f, 0, rfl, ?_, ⟨_, rfl, HXN.out⟩, HBN.out⟩
                      exact Lx.read_form HON.out.val HGF.out
                    · have HNX := Lib.hid (HEND.out (by rw [← HGF.out]; exact heq))
                      have hq1 := Lx.toList_ne heq
                      go_wp2_with fail
                      go_roundg ((x.endings.length : Int) - (p + 1)).toNat
                      case measure => omega
                      case rel => exact ⟨p + 1, by omega, by omega, rfl, by go_num, HB9.out, HNX.out⟩
            · have HNX : Hid (Lx.NotE x s i (p + 1 + 1).toNat) := Lib.hid (Lx.skipP hp1 HNE.out (fun q => hv q.1))
              obtain ⟨cf, hcf⟩ : ∃ cf, cf = Lx.formV x ⟨(i : Int), p, []⟩ := ⟨_, rfl⟩
              rw [← hcf] at hv ⊢
              have hq1 : (cf == 0) = false := by simp [hv]
              have hq2 : (cf != 0) = true := by simp [hv]
              clear hcf hv
              go_wp2_with fail
              go_roundg ((x.endings.length : Int) - (p + 1)).toNat
              case measure => omega
              case rel => exact ⟨p + 1, by omega, by omega, rfl, by go_num, HB2.out, HNX.out⟩
          · have hpe : ¬ p < (x.endings.length : Int) := hlp
            have HNX := Lib.hid (Lx.notB_next hne (by omega : x.endings.length < (p + 1).toNat))
            clear hbq hne
            go_wp2_with fail
            go_roundg (x.entries.length - (i + 1))
            case measure => omega
            case rel => exact ⟨i + 1, by omega, rfl, by go_num, HBQ.out, HNX.out⟩
      · have hltI : ¬ (i : Int) < (x.entries.length : Int) := by omega
        have HNF := Lib.hid (Lx.notB_end hnb (by omega))
        have HRr := Lib.hid ((hbr.block (w.heap.size + 1) (by omega)).trans HRw1.out)
        obtain ⟨r0, r1, r2, z0, z1, z2⟩ := form_cells HRr.out
        have HB9 := Lib.hid (HZR.out wr hbr)
        clear hbr hnb hlt
        go_wp2_with fail
        refine bodyPost_ret (v := .tuple #[.agg #[.int .i64 0, .int .i64 0, .slice none 0 0], .int .i64 4]) (by simp [results, Tryd.results49, go_sem, r0, r1, r2]) rfl ⟨_, ⟨0, 0, []⟩, 4, rfl, Lx.read_none HC0.out HNF.out, zero_in _ _, HB9.out⟩
  · have hq : (cv == 0) = false := by simp [hz]
    have hq' : (cv != 0) = true := by simp [hz]
    have HF : Hid (Lx.checkV x ≠ 0) := Lib.hid (by rw [HCV.out]; exact hz)
    obtain ⟨r0, r1, r2, z0, z1, z2⟩ := form_cells HRw1.out
    have HB9 := Lib.hid (HZR.out w1 (Below.refl _ _))
    clear hz
    go_wp2_with fail
    refine bodyPost_ret (v := .tuple #[.agg #[.int .i64 0, .int .i64 0, .slice none 0 0], .int .i64 cv]) (by simp [results, Tryd.results49, go_sem, r0, r1, r2]) rfl ⟨_, ⟨0, 0, []⟩, cv, rfl, ?_, zero_in _ _, HB9.out⟩
    have := Lx.read_bad (s := s) HF.out
    rwa [HCV.out] at this
end Go.Proofs.YtpmfjndbckblfaaDoor
