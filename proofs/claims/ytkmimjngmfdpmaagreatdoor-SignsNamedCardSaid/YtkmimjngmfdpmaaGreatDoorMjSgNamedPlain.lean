/- signs.Values: its result is a row of the call's own; ostraconlaw01.Large. Names of the signs of a valid list: plain law. -/
import Derived.Test.YtkmimjngmfdpmaaGreatDoorMhSgAcc
import Derived.Test.YtkmimjngmfdpmaaGreatDoorMgShelfF
import Derived.Test.YtkmimjngmfdpmaaGreatDoorMgBegin
import Derived.Lib.ItoaLen
namespace Go.Proofs.YtkmimjngmfdpmaaGreatDoor
open Go Go.RowKit

def RetValsO (q : List Sg.Value) (er : Int) (w : World) (e : Ending) (w' : World) : Prop := ∃ v, e = .returned (.tuple #[v, .int .i64 er]) ∧ w'.ownsRow w.heap.size 60 4 v q.length (q.flatMap encValue) ∧ Below w.heap.size w w'
theorem RetValsO.no {w w' : World} {q : List Sg.Value} {er er' : Int} (hq : q = []) (he : er = er') (hb : Below w.heap.size w w') : RetValsO q er w (.returned (.tuple #[.slice none 0 0, .int .i64 er'])) w' := by subst hq; subst he; exact ⟨_, rfl, World.ownsRow_nil _ _ _ _, hb⟩
set_option maxRecDepth 100000 in
set_option maxHeartbeats 8000000 in
theorem gValuesO_any (v : Value) (l : Sg.SList) (sg per : Int) (w : World) (hr : RdSL w w.heap.size v l) (hvl : ∀ s ∈ l.signs, s.values.length ≤ 1000) : Calls Tryz.prog 32 #[v, .int .i64 sg, .int .i64 per] w (RetValsO (Sg.valsQ l sg per) (Sg.valuesE l sg per) w) := by
  have HRL := Lib.hid hr
  obtain ⟨⟨u, rfl, hgl⟩, hf⟩ := hr
  obtain ⟨A0, c0, rfl⟩ := hgl.form
  have HGL := Lib.hid hgl
  obtain ⟨W1, hW1⟩ : ∃ W1, W1 = w.alloc (.cells #[.int .i64 l.periods, .slice A0 l.signs.length c0] 24) := ⟨_, rfl⟩
  have hb1 : Below w.heap.size w W1 := by rw [hW1]; exact (Below.refl _ _).alloc (Nat.le_refl _) _
  have hX : W1.heap[w.heap.size]? = some (.cells #[.int .i64 l.periods, .slice A0 l.signs.length c0] 24 (0, 0)) := by rw [hW1]; exact heap_alloc_new _ _
  have hs1 : w.heap.size < W1.heap.size := (Array.getElem?_eq_some_iff.1 hX).1
  have CX : Hid (∀ W, Below W1.heap.size W1 W → W.cell? ⟨w.heap.size, 0, none⟩ = some (.int .i64 l.periods) ∧ W.cell? ⟨w.heap.size, 1, none⟩ = some (.slice A0 l.signs.length c0)) := Lib.hid fun W hW => by
    have p := (hW.block _ hs1).trans hX
    exact ⟨by simp [World.cell?, p], by simp [World.cell?, p]⟩
  obtain ⟨x0, x1⟩ := CX.out W1 (Below.refl _ _)
  have HB1 := Lib.hid hb1
  have HW1 := Lib.hid hW1
  have HCK := Lib.hid (gCheck_any _ l W1 (HRL.out.on hb1))
  obtain ⟨e1, he1⟩ : ∃ e1, e1 = Sg.checkV l := ⟨_, rfl⟩
  have HC0 : Hid (e1 = 0 → l.signs.length ≤ 200) := Lib.hid fun h => Sg.check_len (by rw [← he1]; exact h)
  have HE1 := Lib.hid he1
  rw [← he1] at HCK
  clear hW1 hb1 hX hgl hf he1
  go_enter Tryz.func32, Tryz.ntmps32
  go_upto_region 1 with fail
  rw [← HW1.out]
  go_wp2_with fail
  refine HCK.out.mono ?_
  rintro e w2 ⟨rfl, hb2⟩
  have HB2 := Lib.hid (HB1.out.trans (hb2.mono (by omega)))
  have H12 := Lib.hid hb2
  have hs2 := hb2.size
  obtain ⟨x0, x1⟩ := CX.out w2 hb2
  clear hb2
  have HVL := Lib.hid hvl
  clear hvl
  by_cases h0 : e1 = 0
  case neg =>
    have HV : Hid (Sg.valuesE l sg per = e1) := Lib.hid (by unfold Sg.valuesE; rw [← HE1.out, if_pos h0])
    have HQ : Hid (Sg.valsQ l sg per = []) := Lib.hid (by unfold Sg.valsQ; rw [if_neg (by rw [HV.out]; exact h0)])
    go_wp2_with fail
    go_ret2
    exact RetValsO.no HQ.out HV.out HB2.out
  subst h0
  have hsl := HC0.out rfl
  by_cases hsb : Sg.signBad l sg
  · have HV : Hid (Sg.valuesE l sg per = 1) := Lib.hid (by unfold Sg.valuesE; rw [← HE1.out, if_neg (by simp), if_pos hsb])
    have HQ : Hid (Sg.valsQ l sg per = []) := Lib.hid (by unfold Sg.valsQ; rw [if_neg (by rw [HV.out]; decide)])
    have hor : sg < 0 ∨ (¬ sg < 0 ∧ (l.signs.length : Int) ≤ sg) := by unfold Sg.signBad at hsb; omega
    clear hsb
    rcases hor with h1 | ⟨h1, h2⟩
    all_goals
      go_wp2_with fail
      go_ret2
      exact RetValsO.no HQ.out HV.out HB2.out
  obtain ⟨q1, q2⟩ : ¬ sg < 0 ∧ ¬ (l.signs.length : Int) ≤ sg := by unfold Sg.signBad at hsb; omega
  obtain ⟨e2, he2⟩ : ∃ e2, e2 = Sg.perE l per := ⟨_, rfl⟩
  have HCP := Lib.hid fun W => gCheckPeriod_any l A0 l.signs.length c0 per W
  rw [← he2] at HCP
  have HE2 := Lib.hid he2
  clear he2
  go_wp2_with fail
  refine (HCP.out _).mono ?_
  rintro e w3 ⟨rfl, hb3⟩
  have HB3 := Lib.hid (HB2.out.trans (hb3.mono HB2.out.size))
  have H13 := Lib.hid (H12.out.trans (hb3.mono hs2))
  obtain ⟨x0, x1⟩ := CX.out w3 H13.out
  have hs3 := hb3.size
  clear hb3
  by_cases h0 : e2 = 0
  case neg =>
    have HV : Hid (Sg.valuesE l sg per = e2) := Lib.hid (by unfold Sg.valuesE; rw [← HE1.out, if_neg (by simp), if_neg hsb, HE2.out]; rfl)
    have HQ : Hid (Sg.valsQ l sg per = []) := Lib.hid (by unfold Sg.valsQ; rw [if_neg (by rw [HV.out]; exact h0)])
    go_wp2_with fail
    go_ret2
    exact RetValsO.no HQ.out HV.out HB3.out
  have hpb : ¬ Sg.perBad l per := by have := HE2.out; rw [h0] at this; unfold Sg.perE at this; intro h; rw [if_pos h] at this; cases this
  subst h0
  have HV0 : Hid (Sg.valuesE l sg per = 0) := Lib.hid (by unfold Sg.valuesE; rw [← HE1.out, if_neg (by simp), if_neg hsb, if_neg hpb])
  obtain ⟨s, hs⟩ : ∃ s, l.signs[sg.toNat]? = some s := ⟨_, List.getElem?_eq_getElem (by omega)⟩
  have HQ0 : Hid (Sg.valsQ l sg per = Sg.useV s per) := Lib.hid (by unfold Sg.valsQ; rw [if_pos HV0.out, hs])
  obtain ⟨b, off, rfl, hb, hcell⟩ := HGL.out.five (by omega)
  obtain ⟨uv, hrd, g0, g1, g2, g3, g4⟩ := hcell _ s hs
  have f0 := (HB3.out.cell (p := ⟨b, off + sg.toNat * 5, none⟩) hb).trans g0
  have f1 := (HB3.out.cell (p := ⟨b, off + sg.toNat * 5 + 1, none⟩) hb).trans g1
  have f2 := (HB3.out.cell (p := ⟨b, off + sg.toNat * 5 + 2, none⟩) hb).trans g2
  have f3 := (HB3.out.cell (p := ⟨b, off + sg.toNat * 5 + 3, none⟩) hb).trans g3
  have f4 := (HB3.out.cell (p := ⟨b, off + sg.toNat * 5 + 4, none⟩) hb).trans g4
  obtain ⟨A2, c2, rfl, hvc, hvm⟩ := rds_form hrd.rds
  have HRV : Hid (RdS w3 w3.heap.size 4 encValue (.slice A2 s.values.length c2) s.values) := Lib.hid ((hrd.rds.below HB3.out).more HB3.out.size)
  have hvl := HVL.out s (List.mem_of_getElem? hs)
  have q5 : (0 : Int) ≤ sg := by omega
  have q6 : sg < (l.signs.length : Int) := by omega
  obtain ⟨i1, hi1, hz1, hs1', hb1'⟩ := info_parts info_Value
  clear hs hcell g0 g1 g2 g3 g4 hrd hsb hpb f0 f1 f2 f3
  go_wp2_with fail
  clear f4 x0 x1
  go_loopg [10, 40] s.values.length (fun g vv i wr => ∃ (k : Nat) (q : List Sg.Value), k ≤ s.values.length ∧ g = s.values.length - k ∧ i = .int .i64 k ∧ Below w3.heap.size w3 wr ∧ wr.ownsRow w3.heap.size 60 4 vv q.length (q.flatMap encValue) ∧ q = (s.values.take k).filter (Sg.inUseB · per))
  case atStart => exact ⟨0, [], Nat.zero_le _, rfl, rfl, Below.refl _ _, World.ownsRow_nil _ _ _ _, rfl⟩
  case round =>
    obtain ⟨k, q, hk, rfl, rfl, hbel, hown, hq⟩ := hrel
    obtain ⟨Av, cv, rfl⟩ := own_form hown
    have HBK := Lib.hid hbel
    have HOK := Lib.hid hown
    have HQ := Lib.hid hq
    have hszr := hbel.size
    have hql : q.length ≤ k := by rw [hq]; exact Nat.le_trans (List.length_filter_le _ _) (List.length_take_le _ _)
    clear hbel hown hq
    by_cases hlt : k < s.values.length
    · obtain ⟨y, hy⟩ : ∃ y, s.values[k]? = some y := ⟨_, List.getElem?_eq_getElem hlt⟩
      obtain ⟨bv, ov, rfl, hbv, hcv⟩ := RdX.four HRV.out (by omega)
      obtain ⟨g0, g1, g2, g3⟩ := hcv k y hy
      have f0 := (HBK.out.cell (p := ⟨bv, ov + k * 4, none⟩) hbv).trans g0
      have f1 := (HBK.out.cell (p := ⟨bv, ov + k * 4 + 1, none⟩) hbv).trans g1
      have f2 := (HBK.out.cell (p := ⟨bv, ov + k * 4 + 2, none⟩) hbv).trans g2
      have f3 := (HBK.out.cell (p := ⟨bv, ov + k * 4 + 3, none⟩) hbv).trans g3
      have HY := Lib.hid hy
      have hkI : (0 : Int) ≤ (k : Int) := by omega
      have hkJ : (k : Int) < (s.values.length : Int) := by omega
      obtain ⟨wS, hwS⟩ : ∃ wS, wS = wr.alloc (.cells #[.int .i64 y.kind, .string y.text, .int .i64 y.lo, .int .i64 y.hi] 60) := ⟨_, rfl⟩
      have hbS : Below wr.heap.size wr wS := by rw [hwS]; exact (Below.refl _ _).alloc (Nat.le_refl _) _
      have hsb : wS.heap[wr.heap.size]? = some (.cells #[.int .i64 y.kind, .string y.text, .int .i64 y.lo, .int .i64 y.hi] 60 (0, 0)) := by rw [hwS]; exact heap_alloc_new _ _
      have hszS : wr.heap.size < wS.heap.size := by rw [hwS]; simp
      have CY : Hid (∀ W, Below wS.heap.size wS W → W.cell? ⟨wr.heap.size, 0, none⟩ = some (.int .i64 y.kind) ∧ W.cell? ⟨wr.heap.size, 1, none⟩ = some (.string y.text) ∧ W.cell? ⟨wr.heap.size, 2, none⟩ = some (.int .i64 y.lo) ∧ W.cell? ⟨wr.heap.size, 3, none⟩ = some (.int .i64 y.hi)) := Lib.hid fun W hW => by
        have p := (hW.block _ hszS).trans hsb
        exact ⟨by simp [World.cell?, p], by simp [World.cell?, p], by simp [World.cell?, p], by simp [World.cell?, p]⟩
      have HBS := Lib.hid hbS
      have HWS := Lib.hid hwS
      have HIN := Lib.hid (gInUse_any y per wS)
      obtain ⟨iu, hiu⟩ : ∃ iu, iu = Sg.inUseB y per := ⟨_, rfl⟩
      have HIUV := Lib.hid hiu
      rw [← hiu] at HIN
      obtain ⟨y0, y1, y2, y3⟩ := CY.out wS (Below.refl _ _)
      clear hcv hy g0 g1 g2 g3 hwS hbS hsb hiu
      go_upto_region 13 with fail
      rw [← HWS.out]
      clear f0 f1 f2 f3
      go_wp2_with fail
      refine HIN.out.mono ?_
      rintro e w5 ⟨rfl, hb5⟩
      have HBR5 : Hid (Below wr.heap.size wr w5) := Lib.hid (HBS.out.trans (hb5.mono (by omega)))
      have HB5 : Hid (Below w3.heap.size w3 w5) := Lib.hid (HBK.out.trans (HBR5.out.mono hszr))
      have hs5 := HBR5.out.size
      clear y0 y1 y2 y3
      obtain ⟨y0, y1, y2, y3⟩ := CY.out w5 hb5
      clear hb5
      cases iu
      · have HNX : Hid ((s.values.take (k + 1)).filter (Sg.inUseB · per) = (s.values.take k).filter (Sg.inUseB · per)) := Lib.hid (filt_no HY.out HIUV.out.symm)
        have HO5 := Lib.hid (keep_own HOK.out HBR5.out)
        go_wp2_with fail
        go_roundg (s.values.length - (k + 1))
        case measure => omega
        case rel => exact ⟨k + 1, q, by omega, rfl, by go_num, HB5.out, HO5.out, by rw [HNX.out]; exact HQ.out⟩
      have HNX : Hid ((s.values.take (k + 1)).filter (Sg.inUseB · per) = (s.values.take k).filter (Sg.inUseB · per) ++ [y]) := Lib.hid (filt_yes HY.out HIUV.out.symm)
      have HOS : Hid ((w5.alloc (.cells #[.int .i64 y.kind, .string y.text, .int .i64 y.lo, .int .i64 y.hi] 60)).ownsRow w3.heap.size 60 4 (.slice Av q.length cv) q.length (q.flatMap encValue)) := Lib.hid (keep_own HOK.out (HBR5.out.alloc (by omega) _))
      have HRD := Lib.hid (rd_one_value w5 y)
      have hk1 : q.length + 1 ≤ maxLen := by simp only [maxLen]; omega
      have hk2 : (q.length + 1) * 40 ≤ 140737488355328 := by omega
      have hbase : w3.heap.size ≤ (w5.alloc (.cells #[.int .i64 y.kind, .string y.text, .int .i64 y.lo, .int .i64 y.hi] 60)).heap.size := by simp; omega
      go_wp2_with (at_builtin; go_must (refine wpList_append_rd (enc := encValue) rfl (.tmp 47) (.tmp 49) _ rfl w3.heap.size 60 i1 _ 4 40 len_value one_value Tryz.underlying47 hi1 hz1 hs1' hb1' rfl (by decide) (.slice Av q.length cv) q.length (q.flatMap encValue) rfl HOS.out _ (.slice (some ⟨w5.heap.size, 0, none⟩) 1 1) [y] rfl HRD.out hk1 hk2 hbase ?_))
      intro v8 w8 hown8 hg8 hat8
      have HB8 : Hid (Below w3.heap.size w3 w8) := Lib.hid ((HB5.out.alloc (by omega) _).grown hg8 (by simp; omega) (fun q hq => (HOS.out.lt q hq).1))
      have HO8 := Lib.hid (own_value hown8)
      clear hown8 hg8 hat8
      go_wp2_with fail
      go_roundg (s.values.length - (k + 1))
      case measure => omega
      case rel => exact ⟨k + 1, q ++ [y], by omega, rfl, by go_num, HB8.out, HO8.out, by rw [HNX.out, ← HQ.out]⟩
    · have HE : Hid (q = Sg.useV s per) := Lib.hid (by rw [HQ.out, List.take_of_length_le (by omega)]; rfl)
      go_wp2_with fail
      go_ret2
      rw [HQ0.out, HV0.out]
      exact ⟨_, rfl, by rw [← HE.out]; exact HOK.out.mono HB3.out.size, HB3.out.trans (HBK.out.mono HB3.out.size)⟩

def Sg.largeV (l : Sg.SList) : Bool := Sg.bigV l || decide (30 < l.signs.length)
set_option maxRecDepth 100000 in
set_option maxHeartbeats 4000000 in
theorem l1Large_any (v : Value) (l : Sg.SList) (w : World) (hr : RdSL w w.heap.size v l) : Calls Tryz.prog 41 #[v] w (RetBB (Sg.largeV l) w) := by
  have HRL := Lib.hid fun (W : World) (hW : Below w.heap.size w W) => hr.on hW
  obtain ⟨⟨u, rfl, hgl⟩, hf⟩ := hr
  obtain ⟨A0, c0, rfl⟩ := hgl.form
  obtain ⟨W1, hW1⟩ : ∃ W1, W1 = w.alloc (.cells #[.int .i64 l.periods, .slice A0 l.signs.length c0] 24) := ⟨_, rfl⟩
  have hb1 : Below w.heap.size w W1 := by rw [hW1]; exact (Below.refl _ _).alloc (Nat.le_refl _) _
  have hX : W1.heap[w.heap.size]? = some (.cells #[.int .i64 l.periods, .slice A0 l.signs.length c0] 24 (0, 0)) := by rw [hW1]; exact heap_alloc_new _ _
  have hs1 : w.heap.size < W1.heap.size := (Array.getElem?_eq_some_iff.1 hX).1
  have CX : Hid (∀ W, Below W1.heap.size W1 W → W.cell? ⟨w.heap.size, 0, none⟩ = some (.int .i64 l.periods) ∧ W.cell? ⟨w.heap.size, 1, none⟩ = some (.slice A0 l.signs.length c0)) := Lib.hid fun W hW => by
    have p := (hW.block _ hs1).trans hX
    exact ⟨by simp [World.cell?, p], by simp [World.cell?, p]⟩
  obtain ⟨x0, x1⟩ := CX.out W1 (Below.refl _ _)
  have HB1 := Lib.hid hb1
  have HW1 := Lib.hid hW1
  have HBG := Lib.hid (l1Big_any _ l W1 (HRL.out W1 hb1))
  obtain ⟨bg, hbg⟩ : ∃ bg, bg = Sg.bigV l := ⟨_, rfl⟩
  have HLV : Hid (Sg.largeV l = (bg || decide (30 < l.signs.length))) := Lib.hid (by rw [hbg]; rfl)
  rw [← hbg] at HBG
  clear hgl hf hW1 hb1 hX hbg
  go_enter Tryz.func41, Tryz.ntmps41
  go_upto_region 1 with fail
  rw [← HW1.out]
  go_wp2_with fail
  refine HBG.out.mono ?_
  rintro e w2 ⟨rfl, hb2⟩
  have HB2 := Lib.hid (HB1.out.trans (hb2.mono (by omega)))
  have H2 := Lib.hid hb2
  clear hb2 x0 x1
  obtain ⟨x0, x1⟩ := CX.out w2 H2.out
  cases bg
  case true =>
    have HV : Hid (Sg.largeV l = true) := Lib.hid (by rw [HLV.out]; rfl)
    go_wp2_with fail
    go_ret
    exact ⟨ret_bool HV.out.symm, HB2.out⟩
  by_cases h30 : 30 < l.signs.length
  · have HV : Hid (Sg.largeV l = true) := Lib.hid (by rw [HLV.out, decide_eq_true h30]; rfl)
    have i1 : (30 : Int) < (l.signs.length : Int) := by omega
    clear h30
    go_wp2_with fail
    go_ret
    exact ⟨ret_bool HV.out.symm, HB2.out⟩
  · have HV : Hid (Sg.largeV l = false) := Lib.hid (by rw [HLV.out, decide_eq_false h30]; rfl)
    have i1 : decide ((30 : Int) < (l.signs.length : Int)) = false := decide_eq_false (by omega)
    clear h30
    go_wp2_with fail
    go_ret
    exact ⟨ret_bool HV.out.symm, HB2.out⟩
end Go.Proofs.YtkmimjngmfdpmaaGreatDoor
namespace Sg
open Go
theorem check_sign {l : SList} (h : checkV l = 0) : (1 ≤ l.periods ∧ l.periods ≤ 9) ∧ l.signs.length ≤ 200 ∧ ∀ (i : Nat) (s : Sign), l.signs[i]? = some s → signV l.periods (l.signs.take i) s = 0 := by
  unfold checkV at h
  split at h
  · cases h
  · split at h
    · cases h
    · refine ⟨by omega, by omega, fun i s hs => ?_⟩
      have := firstE_ne h i (List.getElem?_eq_some_iff.1 hs).1
      rwa [signAt, hs] at this
theorem sign_parts {p : Int} {b : List Sign} {s : Sign} (h : signV p b s = 0) : codeB s.code = true ∧ b.any (fun t => decide (t.code = s.code)) = false ∧ ¬ sizeBad s ∧ s.values.length ≤ 12 ∧ valuesV p s.values = 0 := by
  unfold signV at h
  split at h
  · cases h
  · rename_i h1
    rw [not_or] at h1
    unfold bodyV at h
    split at h
    · cases h
    · split at h
      · cases h
      · exact ⟨by simpa using h1.1, by simpa using h1.2, by assumption, by omega, h⟩
theorem value_at {p : Int} {l : List Value} (h : valuesV p l = 0) {k : Nat} {v : Value} (hv : l[k]? = some v) : (1 ≤ v.kind ∧ v.kind ≤ 3 ∧ textB v.kind v.text = true) ∧ (1 ≤ v.lo ∧ v.lo ≤ v.hi ∧ v.hi ≤ p) ∧ (l.take k).any (meetB v) = false := by
  have h0 := firstE_ne h k (List.getElem?_eq_some_iff.1 hv).1
  rw [valueAt, hv] at h0
  simp only at h0
  unfold valueV at h0
  split at h0
  · cases h0
  · split at h0
    · cases h0
    · split at h0
      · cases h0
      · rename_i a b c
        rw [not_or, not_or] at a b
        exact ⟨⟨by omega, by omega, by simpa using a.2.2⟩, ⟨by omega, by omega, by omega⟩, by simpa using c⟩
/-- two values of a valid sign in use in one period that say the same are one -/
theorem values_apart {p : Int} {l : List Value} (h : valuesV p l = 0) {j k : Nat} {u v : Value} (hjk : j < k) (hu : l[j]? = some u) (hv : l[k]? = some v) {q : Int} (iu : inUseB u q = true) (iv : inUseB v q = true) (hk : u.kind = v.kind) : u.text ≠ v.text := by
  intro ht
  have h3 := (value_at h hv).2.2
  rw [List.any_eq_false] at h3
  refine h3 u (List.mem_of_getElem? (i := j) (by rw [List.getElem?_take_of_lt hjk]; exact hu)) ?_
  unfold inUseB at iu iv
  simp only [Bool.and_eq_true, decide_eq_true_eq] at iu iv
  unfold meetB
  simp only [Bool.and_eq_true, decide_eq_true_eq]
  exact ⟨⟨⟨hk.symm, ht.symm⟩, by omega⟩, by omega⟩
theorem use_mem {s : Sign} {p : Int} {k : Nat} {v : Value} (hv : (useV s p)[k]? = some v) : v ∈ s.values ∧ inUseB v p = true := by
  have h := List.mem_of_getElem? hv
  unfold useV at h
  exact List.mem_filter.1 h
theorem filter_places {α : Type} (f : α → Bool) : ∀ (l : List α) (j k : Nat) (u v : α), j < k → (l.filter f)[j]? = some u → (l.filter f)[k]? = some v → ∃ j' k' : Nat, j' < k' ∧ l[j']? = some u ∧ l[k']? = some v
  | [], _, _, _, _, _, h, _ => by simp at h
  | a :: l, j, k, u, v, hjk, h1, h2 => by
    rw [List.filter_cons] at h1 h2
    by_cases hf : f a = true
    · rw [if_pos hf] at h1 h2
      obtain ⟨k, rfl⟩ : ∃ m, k = m + 1 := ⟨k - 1, by omega⟩
      rw [List.getElem?_cons_succ] at h2
      cases j with
      | zero =>
        rw [List.getElem?_cons_zero] at h1
        have hm : v ∈ l := (List.mem_filter.1 (List.mem_of_getElem? h2)).1
        obtain ⟨m, hm⟩ := List.getElem?_of_mem hm
        exact ⟨0, m + 1, by omega, h1, by simpa using hm⟩
      | succ j =>
        rw [List.getElem?_cons_succ] at h1
        obtain ⟨j', k', h3, h4, h5⟩ := filter_places f l j k u v (by omega) h1 h2
        exact ⟨j' + 1, k' + 1, by omega, by simpa using h4, by simpa using h5⟩
    · rw [if_neg hf] at h1 h2
      obtain ⟨j', k', h3, h4, h5⟩ := filter_places f l j k u v hjk h1 h2
      exact ⟨j' + 1, k' + 1, by omega, by simpa using h4, by simpa using h5⟩
theorem use_apart {pp p : Int} {s : Sign} (h : valuesV pp s.values = 0) {j k : Nat} {u v : Value} (hjk : j < k) (hu : (useV s p)[j]? = some u) (hv : (useV s p)[k]? = some v) (hk : u.kind = v.kind) : u.text ≠ v.text := by
  obtain ⟨j', k', h1, h2, h3⟩ := filter_places _ s.values j k u v hjk hu hv
  exact values_apart h h1 h2 h3 (use_mem hu).2 (use_mem hv).2 hk
theorem mem_bear {l : List Sign} {kind : Int} {t : ByteArray} {p : Int} {i : Nat} {s : Sign} (hs : l[i]? = some s) (hh : hasB s kind t p = true) : (i : Int) ∈ bearV l kind t p := by
  unfold bearV
  rw [List.mem_map]
  refine ⟨i, ?_, rfl⟩
  rw [List.mem_filter, List.mem_range]
  exact ⟨(List.getElem?_eq_some_iff.1 hs).1, by rw [hs]; exact hh⟩
theorem use_has {s : Sign} {p : Int} {k : Nat} {v : Value} (hv : (useV s p)[k]? = some v) : hasB s v.kind v.text p = true := by
  unfold hasB
  rw [List.any_eq_true]
  obtain ⟨h1, h2⟩ := use_mem hv
  exact ⟨v, h1, by simp [h2]⟩
theorem place_mem : ∀ {l : List Int} {x : Int}, x ∈ l → ∃ q : Nat, placeOf l x = (q : Int) ∧ l[q]? = some x
  | [], _, h => by cases h
  | a :: l, x, h => by
    by_cases e : a = x
    · exact ⟨0, by rw [placeOf, if_pos e]; rfl, by simp [e]⟩
    · have h' : x ∈ l := by
        rcases List.mem_cons.1 h with h | h
        · exact absurd h.symm e
        · exact h
      obtain ⟨q, h1, h2⟩ := place_mem h'
      exact ⟨q + 1, by rw [placeOf, if_neg e, h1, if_neg (by omega)]; push_cast; rfl, by simpa using h2⟩
theorem text_nodig {t : ByteArray} (h : textB 1 t = true) : ∀ b ∈ t.data.toList, notDig b = true := by
  unfold textB at h
  rw [Bool.and_eq_true] at h
  intro b hb
  have h1 := List.all_eq_true.1 h.2 b hb
  unfold textC Lx.small upper at h1
  unfold notDig Lx.digB
  simp [UInt8.le_iff_toNat_le] at h1 ⊢
  omega
theorem take_app {p : UInt8 → Bool} : ∀ {a b : List UInt8}, (∀ x ∈ a, p x = true) → (∀ x, b[0]? = some x → p x = false) → (a ++ b).takeWhile p = a ∧ (a ++ b).dropWhile p = b
  | [], b, _, h => by
    cases b with
    | nil => exact ⟨rfl, rfl⟩
    | cons x b => have := h x rfl; simp [this]
  | x :: a, b, h1, h2 => by
    obtain ⟨i1, i2⟩ := take_app (a := a) (b := b) (fun y hy => h1 y (by simp [hy])) h2
    have := h1 x (by simp)
    simp [this, i1, i2]
/-- the digits of a place -/
def sfx (q : Nat) : List UInt8 := if q = 0 then [] else Lib.decDigits (q + 1)
theorem dec_head : ∀ n : Nat, 0 < n → (Lib.decDigits n)[0]? ≠ some 48 := by
  intro n
  induction n using Nat.strongRecOn with
  | ind n ih =>
    intro hn h
    rw [Lib.decDigits] at h
    split at h
    · rw [List.getElem?_cons_zero, Option.some.injEq] at h
      have h1 := congrArg UInt8.toNat h
      rw [UInt8.toNat_ofNat'] at h1
      have : (48 : UInt8).toNat = 48 := rfl
      omega
    · have h2 := ih (n / 10) (by omega) (by omega)
      have hne : Lib.decDigits (n / 10) ≠ [] := fun e => by
        have := (dig_of_dec (n / 10)).2
        rw [e] at this
        have e0 : Lx.digV [] = 0 := rfl
        omega
      cases e : Lib.decDigits (n / 10) with
      | nil => exact hne e
      | cons a r => rw [e] at h h2; exact h2 h
theorem sfx_ok (q : Nat) : numOk (sfx q) = true ∧ numOf (sfx q) = (q : Int) + 1 ∧ ∀ x, (sfx q)[0]? = some x → notDig x = false := by
  unfold sfx
  by_cases h : q = 0
  · subst h
    exact ⟨rfl, rfl, fun x hx => by simp at hx⟩
  · rw [if_neg h]
    obtain ⟨h1, h2⟩ := dig_of_dec (q + 1)
    have h3 := dec_head (q + 1) (by omega)
    have hne : Lib.decDigits (q + 1) ≠ [] := fun e => by
      rw [e] at h2
      have e0 : Lx.digV [] = 0 := rfl
      omega
    refine ⟨?_, ?_, fun x hx => ?_⟩
    · unfold numOk
      rw [h1, decide_eq_false h3, decide_eq_false]
      · rfl
      · intro e
        rw [e] at h2
        have : Lx.digV [49] = 1 := rfl
        omega
    · unfold numOf
      rw [if_neg hne, h2]; push_cast; rfl
    · unfold notDig
      rw [List.all_eq_true.1 h1 x (List.mem_of_getElem? hx)]
      rfl
/-- the name of a sign -/
def nameN (l : SList) (i : Nat) (t : ByteArray) (p : Int) : ByteArray := (nameV l i t p).1
theorem name_shape {l : SList} {i : Nat} {s : Sign} {p : Int} (hc : checkV l = 0) (hp : ¬ perBad l p) (hs : l.signs[i]? = some s) {t : ByteArray} (hh : hasB s 1 t p = true) :
    ∃ q : Nat, (bearV l.signs 1 t p)[q]? = some (i : Int) ∧ nameV l i t p = (bs (t.data.toList ++ sfx q), 0) := by
  obtain ⟨q, h1, h2⟩ := place_mem (mem_bear hs hh)
  refine ⟨q, h2, ?_⟩
  have hlt := (List.getElem?_eq_some_iff.1 hs).1
  have hv : valuesE l i p = 0 := by
    unfold valuesE
    rw [if_neg (by simp [hc]), if_neg (by unfold signBad; omega), if_neg hp]
  unfold nameV
  rw [if_neg (by simp [hv]), h1]
  unfold nameAt sfx
  rw [if_neg (by omega)]
  by_cases h0 : q = 0
  · rw [if_pos (by omega), if_pos h0, List.append_nil, bs_data]
  · rw [if_neg (by omega), if_neg h0]
    have e : Lib.itoa ((q : Int) + 1) = Lib.decDigits (q + 1) := by
      unfold Lib.itoa
      rw [if_neg (by omega)]
      rfl
    rw [e]
    congr 1
/-- a name is read asq its sign -/
theorem name_read {l : SList} {i : Nat} {s : Sign} {p : Int} (hc : checkV l = 0) (hp : ¬ perBad l p) (hs : l.signs[i]? = some s) {t : ByteArray} (ht : textB 1 t = true) (hh : hasB s 1 t p = true) :
    nameV l i t p = (nameN l i t p, 0) ∧ readNameV l (nameN l i t p) p = ((i : Int), t, 0) := by
  obtain ⟨q, h1, h2⟩ := name_shape hc hp hs hh
  have hn : nameN l i t p = bs (t.data.toList ++ sfx q) := by unfold nameN; rw [h2]
  refine ⟨by rw [hn, h2], ?_⟩
  rw [hn]
  obtain ⟨g1, g2, g3⟩ := sfx_ok q
  obtain ⟨k1, k2⟩ := take_app (p := notDig) (a := t.data.toList) (b := sfx q) (text_nodig ht) g3
  unfold readNameV
  rw [if_neg (by simp [hc]), if_neg hp, bs_list]
  unfold textOf digsOf
  rw [k1, k2, bs_data, if_pos ⟨ht, g1⟩, g2]
  have hlt := (List.getElem?_eq_some_iff.1 h1).1
  unfold readAt
  rw [if_neg (by omega), show ((q : Int) + 1 - 1).toNat = q by omega, List.getD, h1]
  rfl
theorem sfx_len {q : Nat} (h : q ≤ 100000) : (sfx q).length ≤ 21 := by
  unfold sfx
  split
  · simp
  · have e : Lib.itoa ((q : Int) + 1) = Lib.decDigits (q + 1) := by
      unfold Lib.itoa
      rw [if_neg (by omega)]
      rfl
    rw [← e]
    exact Lib.itoa_length_le _ (by omega) (by omega)
theorem name_size {l : SList} {i : Nat} {s : Sign} {p : Int} (hc : checkV l = 0) (hp : ¬ perBad l p) (hs : l.signs[i]? = some s) {t : ByteArray} (ht : textB 1 t = true) (hh : hasB s 1 t p = true) : (nameN l i t p).size ≤ 1000000 := by
  obtain ⟨q, h1, h2⟩ := name_shape hc hp hs hh
  have hn : nameN l i t p = bs (t.data.toList ++ sfx q) := by unfold nameN; rw [h2]
  have hq := (List.getElem?_eq_some_iff.1 h1).1
  have hb : (bearV l.signs 1 t p).length ≤ l.signs.length := by
    unfold bearV
    rw [List.length_map]
    exact Nat.le_trans (List.length_filter_le _ _) (by simp)
  have h200 := (check_sign hc).2.1
  have hx := sfx_len (q := q) (by omega)
  unfold textB at ht
  simp only [Bool.and_eq_true, decide_eq_true_eq] at ht
  have h8 := ht.1.2
  have e0 : t.data.toList.length = t.size := rfl
  have e1 : (bs (t.data.toList ++ sfx q)).size = (t.data.toList ++ sfx q).length := rfl
  rw [hn, e1, List.length_append]
  omega
/-- names so far -/
def Named (l : SList) (p : Int) (i k : Nat) (names : List ByteArray) : Prop := ∀ x ∈ names, ∃ (i' k' : Nat) (s' : Sign) (v' : Value), (i' < i ∨ (i' = i ∧ k' < k)) ∧ l.signs[i']? = some s' ∧ (useV s' p)[k']? = some v' ∧ v'.kind = 1 ∧ x = nameN l i' v'.text p
theorem named_new {l : SList} {p : Int} {i k : Nat} {names : List ByteArray} {s : Sign} {v : Value} (hc : checkV l = 0) (hp : ¬ perBad l p) (hN : Named l p i k names) (hs : l.signs[i]? = some s) (hv : (useV s p)[k]? = some v) (hk : v.kind = 1) : nameN l i v.text p ∉ names := by
  intro hm
  obtain ⟨i', k', s', v', hb, hs', hv', hk', he⟩ := hN _ hm
  have C := (check_sign hc).2.2
  have T : ∀ {j m : Nat} {r : Sign} {u : Value}, l.signs[j]? = some r → (useV r p)[m]? = some u → u.kind = 1 → textB 1 u.text = true := fun {j m r u} h1 h2 h3 => by
    obtain ⟨x, hx⟩ := List.getElem?_of_mem (use_mem h2).1
    have := (value_at (sign_parts (C j r h1)).2.2.2.2 hx).1.2.2
    rwa [h3] at this
  have r1 := (name_read hc hp hs (T hs hv hk) (by have := use_has hv; rwa [hk] at this)).2
  have r2 := (name_read hc hp hs' (T hs' hv' hk') (by have := use_has hv'; rwa [hk'] at this)).2
  rw [he, r2] at r1
  simp only [Prod.mk.injEq] at r1
  obtain ⟨e1, e2, -⟩ := r1
  have e1 : i' = i := by omega
  subst e1
  rw [hs] at hs'
  cases hs'
  rcases hb with h | ⟨-, h⟩
  · omega
  · exact use_apart (sign_parts (C _ _ hs)).2.2.2.2 h hv' hv (hk'.trans hk.symm) e2
theorem named_next {l : SList} {p : Int} {i k : Nat} {names : List ByteArray} (hN : Named l p i k names) : Named l p i (k + 1) names := fun x hx => by
  obtain ⟨i', k', s', v', hb, h⟩ := hN x hx
  exact ⟨i', k', s', v', by omega, h⟩
theorem named_row {l : SList} {p : Int} {i k : Nat} {names : List ByteArray} (hN : Named l p i k names) : Named l p (i + 1) 0 names := fun x hx => by
  obtain ⟨i', k', s', v', hb, h⟩ := hN x hx
  exact ⟨i', k', s', v', by omega, h⟩
theorem named_add {l : SList} {p : Int} {i k : Nat} {names : List ByteArray} {s : Sign} {v : Value} (hN : Named l p i k names) (hs : l.signs[i]? = some s) (hv : (useV s p)[k]? = some v) (hk : v.kind = 1) : Named l p i (k + 1) (names ++ [nameN l i v.text p]) := fun x hx => by
  rcases List.mem_append.1 hx with hx | hx
  · exact named_next hN x hx
  · rw [List.mem_singleton] at hx
    exact ⟨i, k, s, v, by omega, hs, hv, hk, hx⟩
end Sg
