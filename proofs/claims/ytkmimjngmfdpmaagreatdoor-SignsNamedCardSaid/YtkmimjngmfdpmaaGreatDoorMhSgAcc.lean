/- Values, Size, Bearers of both sides; ostraconref01.Name. Made by gen_sgacc.py. -/
import Derived.Test.YtkmimjngmfdpmaaGreatDoorMhRDec
import Derived.Test.YtkmimjngmfdpmaaGreatDoorMgSgWorks
namespace Go.Proofs.YtkmimjngmfdpmaaGreatDoor
open Go Go.RowKit

def Sg.valsQ (l : Sg.SList) (sg per : Int) : List Sg.Value := if Sg.valuesE l sg per = 0 then (match l.signs[sg.toNat]? with | some s => Sg.useV s per | none => []) else []
def Sg.bearQ (l : Sg.SList) (kind : Int) (text : ByteArray) (per : Int) : List Int := if Sg.bearE l kind per = 0 then Sg.bearV l.signs kind text per else []
def Sg.sizeV (l : Sg.SList) (sg turn : Int) : Int × Int × Int := if Sg.sizeE l sg turn ≠ 0 then (0, 0, Sg.sizeE l sg turn) else match l.signs[sg.toNat]? with
  | some s => if turn.tmod 2 = 1 then (s.high, s.wide, 0) else (s.wide, s.high, 0)
  | none => (0, 0, 0)
def RetValsE (q : List Sg.Value) (er : Int) (w : World) (e : Ending) (w' : World) : Prop := ∃ v, e = .returned (.tuple #[v, .int .i64 er]) ∧ RdS w' w'.heap.size 4 encValue v q ∧ Below w.heap.size w w'
def RetIntsE (q : List Int) (er : Int) (w : World) (e : Ending) (w' : World) : Prop := ∃ v, e = .returned (.tuple #[v, .int .i64 er]) ∧ RdS w' w'.heap.size 1 encInt v q ∧ Below w.heap.size w w'
def Ret3I (q : Int × Int × Int) (w : World) (e : Ending) (w' : World) : Prop := e = .returned (.tuple #[.int .i64 q.1, .int .i64 q.2.1, .int .i64 q.2.2]) ∧ Below w.heap.size w w'
theorem rds_nil {α : Type} (w : World) (B size : Nat) (enc : α → List Value) : RdS w B size enc (.slice none 0 0) [] := ⟨none, 0, rfl, Nat.le_refl _, by omega, fun h => absurd h (by simp)⟩
theorem RetValsE.no {w w' : World} {q : List Sg.Value} {er er' : Int} (hq : q = []) (he : er = er') (hb : Below w.heap.size w w') : RetValsE q er w (.returned (.tuple #[.slice none 0 0, .int .i64 er'])) w' := by subst hq; subst he; exact ⟨_, rfl, rds_nil _ _ _ _, hb⟩
theorem RetIntsE.no {w w' : World} {q : List Int} {er er' : Int} (hq : q = []) (he : er = er') (hb : Below w.heap.size w w') : RetIntsE q er w (.returned (.tuple #[.slice none 0 0, .int .i64 er'])) w' := by subst hq; subst he; exact ⟨_, rfl, rds_nil _ _ _ _, hb⟩
theorem Ret3I.of {w w' : World} {q : Int × Int × Int} {a b c : Int} (hq : q = (a, b, c)) (hb : Below w.heap.size w w') : Ret3I q w (.returned (.tuple #[.int .i64 a, .int .i64 b, .int .i64 c])) w' := by subst hq; exact ⟨rfl, hb⟩
theorem Sg.check_len {l : Sg.SList} (h : Sg.checkV l = 0) : l.signs.length ≤ 200 := by
  unfold Sg.checkV at h
  refine Decidable.byContradiction fun hc => ?_
  rw [if_pos (by omega)] at h
  cases h
set_option maxRecDepth 100000 in
set_option maxHeartbeats 8000000 in
theorem r1Values_any (v : Value) (l : Sg.SList) (sg per : Int) (w : World) (hr : RdSL w w.heap.size v l) (hvl : ∀ s ∈ l.signs, s.values.length ≤ 1000) : Calls Tryz.prog 33 #[v, .int .i64 sg, .int .i64 per] w (RetValsE (Sg.valsQ l sg per) (Sg.valuesE l sg per) w) := by
  have HRL := Lib.hid hr
  obtain ⟨⟨u, rfl, hgl⟩, hf⟩ := hr
  obtain ⟨A0, c0, rfl⟩ := hgl.form
  have HGL := Lib.hid hgl
  obtain ⟨W1, hW1⟩ : ∃ W1, W1 = w.alloc (.cells #[.int .i64 l.periods, .slice A0 l.signs.length c0] 24) := ⟨_, rfl⟩
  have hb1 : Below w.heap.size w W1 := by rw [hW1]; exact (Below.refl _ _).alloc (Nat.le_refl _) _
  have hX : W1.heap[w.heap.size]? = some (.cells #[.int .i64 l.periods, .slice A0 l.signs.length c0] 24 (0, 0)) := by rw [hW1]; exact heap_alloc_new _ _
  have hs1 : w.heap.size < W1.heap.size := (Array.getElem?_eq_some_iff.1 hX).1
  have CX : Hid (∀ W, Below W1.heap.size W1 W → W.cell? ⟨w.heap.size, 0, none⟩ = some (.int .i64 l.periods) ∧ W.cell? ⟨w.heap.size, 1, none⟩ = some (.slice A0 l.signs.length c0)) := Lib.hid fun W hW => by
    have p := (hW.block _ hs1).trans hX
    exact ⟨by simp [World.cell?, p], by simp [World.cell?, p]⟩
  obtain ⟨x0, x1⟩ := CX.out W1 (Below.refl _ _)
  have HB1 := Lib.hid hb1
  have HW1 := Lib.hid hW1
  have HCK := Lib.hid (r1Check_any _ l W1 (HRL.out.on hb1))
  obtain ⟨e1, he1⟩ : ∃ e1, e1 = Sg.checkV l := ⟨_, rfl⟩
  have HC0 : Hid (e1 = 0 → l.signs.length ≤ 200) := Lib.hid fun h => Sg.check_len (by rw [← he1]; exact h)
  have HE1 := Lib.hid he1
  rw [← he1] at HCK
  clear hW1 hb1 hX hgl hf he1
  go_enter Tryz.func33, Tryz.ntmps33
  go_upto_region 1 with fail
  rw [← HW1.out]
  go_wp2_with fail
  refine HCK.out.mono ?_
  rintro e w2 ⟨rfl, hb2⟩
  have HB2 := Lib.hid (HB1.out.trans (hb2.mono (by omega)))
  have H12 := Lib.hid hb2
  have hs2 := hb2.size
  obtain ⟨x0, x1⟩ := CX.out w2 hb2
  clear hb2
  have HVL := Lib.hid hvl
  clear hvl
  by_cases h0 : e1 = 0
  case neg =>
    have HV : Hid (Sg.valuesE l sg per = e1) := Lib.hid (by unfold Sg.valuesE; rw [← HE1.out, if_pos h0])
    have HQ : Hid (Sg.valsQ l sg per = []) := Lib.hid (by unfold Sg.valsQ; rw [if_neg (by rw [HV.out]; exact h0)])
    go_wp2_with fail
    go_ret2
    exact RetValsE.no HQ.out HV.out HB2.out
  subst h0
  have hsl := HC0.out rfl
  by_cases hsb : Sg.signBad l sg
  · have HV : Hid (Sg.valuesE l sg per = 1) := Lib.hid (by unfold Sg.valuesE; rw [← HE1.out, if_neg (by simp), if_pos hsb])
    have HQ : Hid (Sg.valsQ l sg per = []) := Lib.hid (by unfold Sg.valsQ; rw [if_neg (by rw [HV.out]; decide)])
    have hor : sg < 0 ∨ (¬ sg < 0 ∧ (l.signs.length : Int) ≤ sg) := by unfold Sg.signBad at hsb; omega
    clear hsb
    rcases hor with h1 | ⟨h1, h2⟩
    all_goals
      go_wp2_with fail
      go_ret2
      exact RetValsE.no HQ.out HV.out HB2.out
  obtain ⟨q1, q2⟩ : ¬ sg < 0 ∧ ¬ (l.signs.length : Int) ≤ sg := by unfold Sg.signBad at hsb; omega
  by_cases hpb : Sg.perBad l per
  · have HV : Hid (Sg.valuesE l sg per = 13) := Lib.hid (by unfold Sg.valuesE; rw [← HE1.out, if_neg (by simp), if_neg hsb, if_pos hpb])
    have HQ : Hid (Sg.valsQ l sg per = []) := Lib.hid (by unfold Sg.valsQ; rw [if_neg (by rw [HV.out]; decide)])
    have hor : per < 1 ∨ (¬ per < 1 ∧ l.periods < per) := by unfold Sg.perBad at hpb; omega
    clear hpb
    rcases hor with h1 | ⟨h1, h2⟩
    all_goals
      go_wp2_with fail
      go_ret2
      exact RetValsE.no HQ.out HV.out HB2.out
  obtain ⟨q3, q4⟩ : ¬ per < 1 ∧ ¬ l.periods < per := by unfold Sg.perBad at hpb; omega
  obtain ⟨w3, hw3⟩ : ∃ w3, w3 = w2 := ⟨_, rfl⟩
  have HB3 := HB2
  have H13 := H12
  have HV0 : Hid (Sg.valuesE l sg per = 0) := Lib.hid (by unfold Sg.valuesE; rw [← HE1.out, if_neg (by simp), if_neg hsb, if_neg hpb])
  obtain ⟨s, hs⟩ : ∃ s, l.signs[sg.toNat]? = some s := ⟨_, List.getElem?_eq_getElem (by omega)⟩
  have HQ0 : Hid (Sg.valsQ l sg per = Sg.useV s per) := Lib.hid (by unfold Sg.valsQ; rw [if_pos HV0.out, hs])
  obtain ⟨b, off, rfl, hb, hcell⟩ := HGL.out.five (by omega)
  obtain ⟨uv, hrd, g0, g1, g2, g3, g4⟩ := hcell _ s hs
  have f0 := (HB2.out.cell (p := ⟨b, off + sg.toNat * 5, none⟩) hb).trans g0
  have f1 := (HB2.out.cell (p := ⟨b, off + sg.toNat * 5 + 1, none⟩) hb).trans g1
  have f2 := (HB2.out.cell (p := ⟨b, off + sg.toNat * 5 + 2, none⟩) hb).trans g2
  have f3 := (HB2.out.cell (p := ⟨b, off + sg.toNat * 5 + 3, none⟩) hb).trans g3
  have f4 := (HB2.out.cell (p := ⟨b, off + sg.toNat * 5 + 4, none⟩) hb).trans g4
  obtain ⟨A2, c2, rfl, hvc, hvm⟩ := rds_form hrd.rds
  have HRV : Hid (RdS w2 w2.heap.size 4 encValue (.slice A2 s.values.length c2) s.values) := Lib.hid ((hrd.rds.below HB2.out).more HB2.out.size)
  have hvl := HVL.out s (List.mem_of_getElem? hs)
  have q5 : (0 : Int) ≤ sg := by omega
  have q6 : sg < (l.signs.length : Int) := by omega
  have HIU := Lib.hid (r1InUse_any s _ per w2 HRV.out hvl)
  clear hs hcell g0 g1 g2 g3 g4 hrd hsb hpb hw3
  go_wp2_with fail
  refine HIU.out.mono ?_
  rintro e w4 ⟨v4, rfl, hown, hb4⟩
  have HB4 := Lib.hid (HB2.out.trans (hb4.mono HB2.out.size))
  have HRQ := Lib.hid (rds_of_own len_value hown)
  obtain ⟨A4, c4, rfl⟩ := own_form hown
  clear hb4 hown
  go_wp2_with fail
  go_ret2
  rw [HQ0.out, HV0.out]
  exact ⟨_, rfl, HRQ.out, HB4.out⟩
set_option maxRecDepth 100000 in
set_option maxHeartbeats 8000000 in
theorem gValues_any (v : Value) (l : Sg.SList) (sg per : Int) (w : World) (hr : RdSL w w.heap.size v l) (hvl : ∀ s ∈ l.signs, s.values.length ≤ 1000) : Calls Tryz.prog 32 #[v, .int .i64 sg, .int .i64 per] w (RetValsE (Sg.valsQ l sg per) (Sg.valuesE l sg per) w) := by
  have HRL := Lib.hid hr
  obtain ⟨⟨u, rfl, hgl⟩, hf⟩ := hr
  obtain ⟨A0, c0, rfl⟩ := hgl.form
  have HGL := Lib.hid hgl
  obtain ⟨W1, hW1⟩ : ∃ W1, W1 = w.alloc (.cells #[.int .i64 l.periods, .slice A0 l.signs.length c0] 24) := ⟨_, rfl⟩
  have hb1 : Below w.heap.size w W1 := by rw [hW1]; exact (Below.refl _ _).alloc (Nat.le_refl _) _
  have hX : W1.heap[w.heap.size]? = some (.cells #[.int .i64 l.periods, .slice A0 l.signs.length c0] 24 (0, 0)) := by rw [hW1]; exact heap_alloc_new _ _
  have hs1 : w.heap.size < W1.heap.size := (Array.getElem?_eq_some_iff.1 hX).1
  have CX : Hid (∀ W, Below W1.heap.size W1 W → W.cell? ⟨w.heap.size, 0, none⟩ = some (.int .i64 l.periods) ∧ W.cell? ⟨w.heap.size, 1, none⟩ = some (.slice A0 l.signs.length c0)) := Lib.hid fun W hW => by
    have p := (hW.block _ hs1).trans hX
    exact ⟨by simp [World.cell?, p], by simp [World.cell?, p]⟩
  obtain ⟨x0, x1⟩ := CX.out W1 (Below.refl _ _)
  have HB1 := Lib.hid hb1
  have HW1 := Lib.hid hW1
  have HCK := Lib.hid (gCheck_any _ l W1 (HRL.out.on hb1))
  obtain ⟨e1, he1⟩ : ∃ e1, e1 = Sg.checkV l := ⟨_, rfl⟩
  have HC0 : Hid (e1 = 0 → l.signs.length ≤ 200) := Lib.hid fun h => Sg.check_len (by rw [← he1]; exact h)
  have HE1 := Lib.hid he1
  rw [← he1] at HCK
  clear hW1 hb1 hX hgl hf he1
  go_enter Tryz.func32, Tryz.ntmps32
  go_upto_region 1 with fail
  rw [← HW1.out]
  go_wp2_with fail
  refine HCK.out.mono ?_
  rintro e w2 ⟨rfl, hb2⟩
  have HB2 := Lib.hid (HB1.out.trans (hb2.mono (by omega)))
  have H12 := Lib.hid hb2
  have hs2 := hb2.size
  obtain ⟨x0, x1⟩ := CX.out w2 hb2
  clear hb2
  have HVL := Lib.hid hvl
  clear hvl
  by_cases h0 : e1 = 0
  case neg =>
    have HV : Hid (Sg.valuesE l sg per = e1) := Lib.hid (by unfold Sg.valuesE; rw [← HE1.out, if_pos h0])
    have HQ : Hid (Sg.valsQ l sg per = []) := Lib.hid (by unfold Sg.valsQ; rw [if_neg (by rw [HV.out]; exact h0)])
    go_wp2_with fail
    go_ret2
    exact RetValsE.no HQ.out HV.out HB2.out
  subst h0
  have hsl := HC0.out rfl
  by_cases hsb : Sg.signBad l sg
  · have HV : Hid (Sg.valuesE l sg per = 1) := Lib.hid (by unfold Sg.valuesE; rw [← HE1.out, if_neg (by simp), if_pos hsb])
    have HQ : Hid (Sg.valsQ l sg per = []) := Lib.hid (by unfold Sg.valsQ; rw [if_neg (by rw [HV.out]; decide)])
    have hor : sg < 0 ∨ (¬ sg < 0 ∧ (l.signs.length : Int) ≤ sg) := by unfold Sg.signBad at hsb; omega
    clear hsb
    rcases hor with h1 | ⟨h1, h2⟩
    all_goals
      go_wp2_with fail
      go_ret2
      exact RetValsE.no HQ.out HV.out HB2.out
  obtain ⟨q1, q2⟩ : ¬ sg < 0 ∧ ¬ (l.signs.length : Int) ≤ sg := by unfold Sg.signBad at hsb; omega
  obtain ⟨e2, he2⟩ : ∃ e2, e2 = Sg.perE l per := ⟨_, rfl⟩
  have HCP := Lib.hid fun W => gCheckPeriod_any l A0 l.signs.length c0 per W
  rw [← he2] at HCP
  have HE2 := Lib.hid he2
  clear he2
  go_wp2_with fail
  refine (HCP.out _).mono ?_
  rintro e w3 ⟨rfl, hb3⟩
  have HB3 := Lib.hid (HB2.out.trans (hb3.mono HB2.out.size))
  have H13 := Lib.hid (H12.out.trans (hb3.mono hs2))
  obtain ⟨x0, x1⟩ := CX.out w3 H13.out
  have hs3 := hb3.size
  clear hb3
  by_cases h0 : e2 = 0
  case neg =>
    have HV : Hid (Sg.valuesE l sg per = e2) := Lib.hid (by unfold Sg.valuesE; rw [← HE1.out, if_neg (by simp), if_neg hsb, HE2.out]; rfl)
    have HQ : Hid (Sg.valsQ l sg per = []) := Lib.hid (by unfold Sg.valsQ; rw [if_neg (by rw [HV.out]; exact h0)])
    go_wp2_with fail
    go_ret2
    exact RetValsE.no HQ.out HV.out HB3.out
  have hpb : ¬ Sg.perBad l per := by have := HE2.out; rw [h0] at this; unfold Sg.perE at this; intro h; rw [if_pos h] at this; cases this
  subst h0
  have HV0 : Hid (Sg.valuesE l sg per = 0) := Lib.hid (by unfold Sg.valuesE; rw [← HE1.out, if_neg (by simp), if_neg hsb, if_neg hpb])
  obtain ⟨s, hs⟩ : ∃ s, l.signs[sg.toNat]? = some s := ⟨_, List.getElem?_eq_getElem (by omega)⟩
  have HQ0 : Hid (Sg.valsQ l sg per = Sg.useV s per) := Lib.hid (by unfold Sg.valsQ; rw [if_pos HV0.out, hs])
  obtain ⟨b, off, rfl, hb, hcell⟩ := HGL.out.five (by omega)
  obtain ⟨uv, hrd, g0, g1, g2, g3, g4⟩ := hcell _ s hs
  have f0 := (HB3.out.cell (p := ⟨b, off + sg.toNat * 5, none⟩) hb).trans g0
  have f1 := (HB3.out.cell (p := ⟨b, off + sg.toNat * 5 + 1, none⟩) hb).trans g1
  have f2 := (HB3.out.cell (p := ⟨b, off + sg.toNat * 5 + 2, none⟩) hb).trans g2
  have f3 := (HB3.out.cell (p := ⟨b, off + sg.toNat * 5 + 3, none⟩) hb).trans g3
  have f4 := (HB3.out.cell (p := ⟨b, off + sg.toNat * 5 + 4, none⟩) hb).trans g4
  obtain ⟨A2, c2, rfl, hvc, hvm⟩ := rds_form hrd.rds
  have HRV : Hid (RdS w3 w3.heap.size 4 encValue (.slice A2 s.values.length c2) s.values) := Lib.hid ((hrd.rds.below HB3.out).more HB3.out.size)
  have hvl := HVL.out s (List.mem_of_getElem? hs)
  have q5 : (0 : Int) ≤ sg := by omega
  have q6 : sg < (l.signs.length : Int) := by omega
  obtain ⟨i1, hi1, hz1, hs1', hb1'⟩ := info_parts info_Value
  clear hs hcell g0 g1 g2 g3 g4 hrd hsb hpb f0 f1 f2 f3
  go_wp2_with fail
  clear f4 x0 x1
  go_loopg [10, 40] s.values.length (fun g vv i wr => ∃ (k : Nat) (q : List Sg.Value), k ≤ s.values.length ∧ g = s.values.length - k ∧ i = .int .i64 k ∧ Below w3.heap.size w3 wr ∧ wr.ownsRow w3.heap.size 60 4 vv q.length (q.flatMap encValue) ∧ q = (s.values.take k).filter (Sg.inUseB · per))
  case atStart => exact ⟨0, [], Nat.zero_le _, rfl, rfl, Below.refl _ _, World.ownsRow_nil _ _ _ _, rfl⟩
  case round =>
    obtain ⟨k, q, hk, rfl, rfl, hbel, hown, hq⟩ := hrel
    obtain ⟨Av, cv, rfl⟩ := own_form hown
    have HBK := Lib.hid hbel
    have HOK := Lib.hid hown
    have HQ := Lib.hid hq
    have hszr := hbel.size
    have hql : q.length ≤ k := by rw [hq]; exact Nat.le_trans (List.length_filter_le _ _) (List.length_take_le _ _)
    clear hbel hown hq
    by_cases hlt : k < s.values.length
    · obtain ⟨y, hy⟩ : ∃ y, s.values[k]? = some y := ⟨_, List.getElem?_eq_getElem hlt⟩
      obtain ⟨bv, ov, rfl, hbv, hcv⟩ := RdX.four HRV.out (by omega)
      obtain ⟨g0, g1, g2, g3⟩ := hcv k y hy
      have f0 := (HBK.out.cell (p := ⟨bv, ov + k * 4, none⟩) hbv).trans g0
      have f1 := (HBK.out.cell (p := ⟨bv, ov + k * 4 + 1, none⟩) hbv).trans g1
      have f2 := (HBK.out.cell (p := ⟨bv, ov + k * 4 + 2, none⟩) hbv).trans g2
      have f3 := (HBK.out.cell (p := ⟨bv, ov + k * 4 + 3, none⟩) hbv).trans g3
      have HY := Lib.hid hy
      have hkI : (0 : Int) ≤ (k : Int) := by omega
      have hkJ : (k : Int) < (s.values.length : Int) := by omega
      obtain ⟨wS, hwS⟩ : ∃ wS, wS = wr.alloc (.cells #[.int .i64 y.kind, .string y.text, .int .i64 y.lo, .int .i64 y.hi] 60) := ⟨_, rfl⟩
      have hbS : Below wr.heap.size wr wS := by rw [hwS]; exact (Below.refl _ _).alloc (Nat.le_refl _) _
      have hsb : wS.heap[wr.heap.size]? = some (.cells #[.int .i64 y.kind, .string y.text, .int .i64 y.lo, .int .i64 y.hi] 60 (0, 0)) := by rw [hwS]; exact heap_alloc_new _ _
      have hszS : wr.heap.size < wS.heap.size := by rw [hwS]; simp
      have CY : Hid (∀ W, Below wS.heap.size wS W → W.cell? ⟨wr.heap.size, 0, none⟩ = some (.int .i64 y.kind) ∧ W.cell? ⟨wr.heap.size, 1, none⟩ = some (.string y.text) ∧ W.cell? ⟨wr.heap.size, 2, none⟩ = some (.int .i64 y.lo) ∧ W.cell? ⟨wr.heap.size, 3, none⟩ = some (.int .i64 y.hi)) := Lib.hid fun W hW => by
        have p := (hW.block _ hszS).trans hsb
        exact ⟨by simp [World.cell?, p], by simp [World.cell?, p], by simp [World.cell?, p], by simp [World.cell?, p]⟩
      have HBS := Lib.hid hbS
      have HWS := Lib.hid hwS
      have HIN := Lib.hid (gInUse_any y per wS)
      obtain ⟨iu, hiu⟩ : ∃ iu, iu = Sg.inUseB y per := ⟨_, rfl⟩
      have HIUV := Lib.hid hiu
      rw [← hiu] at HIN
      obtain ⟨y0, y1, y2, y3⟩ := CY.out wS (Below.refl _ _)
      clear hcv hy g0 g1 g2 g3 hwS hbS hsb hiu
      go_upto_region 13 with fail
      rw [← HWS.out]
      clear f0 f1 f2 f3
      go_wp2_with fail
      refine HIN.out.mono ?_
      rintro e w5 ⟨rfl, hb5⟩
      have HBR5 : Hid (Below wr.heap.size wr w5) := Lib.hid (HBS.out.trans (hb5.mono (by omega)))
      have HB5 : Hid (Below w3.heap.size w3 w5) := Lib.hid (HBK.out.trans (HBR5.out.mono hszr))
      have hs5 := HBR5.out.size
      clear y0 y1 y2 y3
      obtain ⟨y0, y1, y2, y3⟩ := CY.out w5 hb5
      clear hb5
      cases iu
      · have HNX : Hid ((s.values.take (k + 1)).filter (Sg.inUseB · per) = (s.values.take k).filter (Sg.inUseB · per)) := Lib.hid (filt_no HY.out HIUV.out.symm)
        have HO5 := Lib.hid (keep_own HOK.out HBR5.out)
        go_wp2_with fail
        go_roundg (s.values.length - (k + 1))
        case measure => omega
        case rel => exact ⟨k + 1, q, by omega, rfl, by go_num, HB5.out, HO5.out, by rw [HNX.out]; exact HQ.out⟩
      have HNX : Hid ((s.values.take (k + 1)).filter (Sg.inUseB · per) = (s.values.take k).filter (Sg.inUseB · per) ++ [y]) := Lib.hid (filt_yes HY.out HIUV.out.symm)
      have HOS : Hid ((w5.alloc (.cells #[.int .i64 y.kind, .string y.text, .int .i64 y.lo, .int .i64 y.hi] 60)).ownsRow w3.heap.size 60 4 (.slice Av q.length cv) q.length (q.flatMap encValue)) := Lib.hid (keep_own HOK.out (HBR5.out.alloc (by omega) _))
      have HRD := Lib.hid (rd_one_value w5 y)
      have hk1 : q.length + 1 ≤ maxLen := by simp only [maxLen]; omega
      have hk2 : (q.length + 1) * 40 ≤ 140737488355328 := by omega
      have hbase : w3.heap.size ≤ (w5.alloc (.cells #[.int .i64 y.kind, .string y.text, .int .i64 y.lo, .int .i64 y.hi] 60)).heap.size := by simp; omega
      go_wp2_with (at_builtin; go_must (refine wpList_append_rd (enc := encValue) rfl (.tmp 47) (.tmp 49) _ rfl w3.heap.size 60 i1 _ 4 40 len_value one_value Tryz.underlying47 hi1 hz1 hs1' hb1' rfl (by decide) (.slice Av q.length cv) q.length (q.flatMap encValue) rfl HOS.out _ (.slice (some ⟨w5.heap.size, 0, none⟩) 1 1) [y] rfl HRD.out hk1 hk2 hbase ?_))
      intro v8 w8 hown8 hg8 hat8
      have HB8 : Hid (Below w3.heap.size w3 w8) := Lib.hid ((HB5.out.alloc (by omega) _).grown hg8 (by simp; omega) (fun q hq => (HOS.out.lt q hq).1))
      have HO8 := Lib.hid (own_value hown8)
      clear hown8 hg8 hat8
      go_wp2_with fail
      go_roundg (s.values.length - (k + 1))
      case measure => omega
      case rel => exact ⟨k + 1, q ++ [y], by omega, rfl, by go_num, HB8.out, HO8.out, by rw [HNX.out, ← HQ.out]⟩
    · have HE : Hid (q = Sg.useV s per) := Lib.hid (by rw [HQ.out, List.take_of_length_le (by omega)]; rfl)
      go_wp2_with fail
      go_ret2
      rw [HQ0.out, HV0.out]
      exact ⟨_, rfl, by rw [← HE.out]; exact rds_of_own len_value HOK.out, HB3.out.trans (HBK.out.mono HB3.out.size)⟩
set_option maxRecDepth 100000 in
set_option maxHeartbeats 8000000 in
theorem gSize_any (v : Value) (l : Sg.SList) (sg turn : Int) (w : World) (hr : RdSL w w.heap.size v l) : Calls Tryz.prog 34 #[v, .int .i64 sg, .int .i64 turn] w (Ret3I (Sg.sizeV l sg turn) w) := by
  have HRL := Lib.hid hr
  obtain ⟨⟨u, rfl, hgl⟩, hf⟩ := hr
  obtain ⟨A0, c0, rfl⟩ := hgl.form
  have HGL := Lib.hid hgl
  obtain ⟨W1, hW1⟩ : ∃ W1, W1 = w.alloc (.cells #[.int .i64 l.periods, .slice A0 l.signs.length c0] 24) := ⟨_, rfl⟩
  have hb1 : Below w.heap.size w W1 := by rw [hW1]; exact (Below.refl _ _).alloc (Nat.le_refl _) _
  have hX : W1.heap[w.heap.size]? = some (.cells #[.int .i64 l.periods, .slice A0 l.signs.length c0] 24 (0, 0)) := by rw [hW1]; exact heap_alloc_new _ _
  have hs1 : w.heap.size < W1.heap.size := (Array.getElem?_eq_some_iff.1 hX).1
  have CX : Hid (∀ W, Below W1.heap.size W1 W → W.cell? ⟨w.heap.size, 0, none⟩ = some (.int .i64 l.periods) ∧ W.cell? ⟨w.heap.size, 1, none⟩ = some (.slice A0 l.signs.length c0)) := Lib.hid fun W hW => by
    have p := (hW.block _ hs1).trans hX
    exact ⟨by simp [World.cell?, p], by simp [World.cell?, p]⟩
  obtain ⟨x0, x1⟩ := CX.out W1 (Below.refl _ _)
  have HB1 := Lib.hid hb1
  have HW1 := Lib.hid hW1
  have HCK := Lib.hid (gCheck_any _ l W1 (HRL.out.on hb1))
  obtain ⟨e1, he1⟩ : ∃ e1, e1 = Sg.checkV l := ⟨_, rfl⟩
  have HC0 : Hid (e1 = 0 → l.signs.length ≤ 200) := Lib.hid fun h => Sg.check_len (by rw [← he1]; exact h)
  have HE1 := Lib.hid he1
  rw [← he1] at HCK
  clear hW1 hb1 hX hgl hf he1
  go_enter Tryz.func34, Tryz.ntmps34
  go_upto_region 1 with fail
  rw [← HW1.out]
  go_wp2_with fail
  refine HCK.out.mono ?_
  rintro e w2 ⟨rfl, hb2⟩
  have HB2 := Lib.hid (HB1.out.trans (hb2.mono (by omega)))
  have H12 := Lib.hid hb2
  have hs2 := hb2.size
  obtain ⟨x0, x1⟩ := CX.out w2 hb2
  clear hb2
  by_cases h0 : e1 = 0
  case neg =>
    have HV : Hid (Sg.sizeV l sg turn = (0, 0, e1)) := Lib.hid (by
      have h : Sg.sizeE l sg turn = e1 := by unfold Sg.sizeE; rw [← HE1.out, if_pos h0]
      unfold Sg.sizeV
      rw [h]
      try rfl
      try rw [if_pos h0])
    go_wp2_with fail
    go_ret3
    exact Ret3I.of HV.out HB2.out
  subst h0
  have hsl := HC0.out rfl
  by_cases hbad : Sg.signBad l sg ∨ turn < 0 ∨ 3 < turn
  · have HV : Hid (Sg.sizeV l sg turn = (0, 0, 1)) := Lib.hid (by
      have h : Sg.sizeE l sg turn = 1 := by unfold Sg.sizeE; rw [← HE1.out, if_neg (by simp), if_pos hbad]
      unfold Sg.sizeV
      rw [h]
      try rfl
      try rw [if_pos h0])
    have hor : sg < 0 ∨ (¬ sg < 0 ∧ (l.signs.length : Int) ≤ sg) ∨ (¬ sg < 0 ∧ ¬ (l.signs.length : Int) ≤ sg ∧ turn < 0) ∨ (¬ sg < 0 ∧ ¬ (l.signs.length : Int) ≤ sg ∧ ¬ turn < 0 ∧ 3 < turn) := by unfold Sg.signBad at hbad; omega
    clear hbad
    rcases hor with h1 | ⟨h1, h2⟩ | ⟨h1, h2, h3⟩ | ⟨h1, h2, h3, h4⟩
    all_goals
      go_wp2_with fail
      go_ret3
      exact Ret3I.of HV.out HB2.out
  obtain ⟨q1, q2, q3, q4⟩ : ¬ sg < 0 ∧ ¬ (l.signs.length : Int) ≤ sg ∧ ¬ turn < 0 ∧ ¬ 3 < turn := by unfold Sg.signBad at hbad; omega
  obtain ⟨s, hs⟩ : ∃ s, l.signs[sg.toNat]? = some s := ⟨_, List.getElem?_eq_getElem (by omega)⟩
  have HV : Hid (Sg.sizeV l sg turn = if turn.tmod 2 = 1 then (s.high, s.wide, 0) else (s.wide, s.high, 0)) := Lib.hid (by
    have h : Sg.sizeE l sg turn = 0 := by unfold Sg.sizeE; rw [← HE1.out, if_neg (by simp), if_neg hbad]
    unfold Sg.sizeV
    rw [h, hs]
    simp)
  obtain ⟨b, off, rfl, hb, hcell⟩ := HGL.out.five (by omega)
  obtain ⟨uv, hrd, g0, g1, g2, g3, g4⟩ := hcell _ s hs
  have f0 := (HB2.out.cell (p := ⟨b, off + sg.toNat * 5, none⟩) hb).trans g0
  have f1 := (HB2.out.cell (p := ⟨b, off + sg.toNat * 5 + 1, none⟩) hb).trans g1
  have f2 := (HB2.out.cell (p := ⟨b, off + sg.toNat * 5 + 2, none⟩) hb).trans g2
  have f3 := (HB2.out.cell (p := ⟨b, off + sg.toNat * 5 + 3, none⟩) hb).trans g3
  have f4 := (HB2.out.cell (p := ⟨b, off + sg.toNat * 5 + 4, none⟩) hb).trans g4
  obtain ⟨A2, c2, rfl, hvc, hvm⟩ := rds_form hrd.rds
  have q5 : (0 : Int) ≤ sg := by omega
  have q6 : sg < (l.signs.length : Int) := by omega
  clear hs hcell g0 g1 g2 g3 g4 hrd hbad
  have htm : turn.tmod 2 = turn % 2 := Int.tmod_eq_emod_of_nonneg (by omega)
  rw [htm] at HV
  by_cases ht : turn % 2 = 1
  · have HR : Hid (Sg.sizeV l sg turn = (s.high, s.wide, 0)) := Lib.hid (by rw [HV.out, if_pos ht])
    go_wp2_with fail
    go_quiet (fail)
    go_wp2_with fail
    go_ret3
    exact Ret3I.of HR.out (below_drewN (HB2.out.alloc (by omega) _) _)
  · have HR : Hid (Sg.sizeV l sg turn = (s.wide, s.high, 0)) := Lib.hid (by rw [HV.out, if_neg ht])
    have ht' : (turn % 2 == 1) = false := by rw [beq_eq_false_iff_ne]; exact ht
    go_wp2_with fail
    go_quiet (fail)
    go_wp2_with fail
    go_ret3
    exact Ret3I.of HR.out (below_drewN (HB2.out.alloc (by omega) _) _)
set_option maxRecDepth 100000 in
set_option maxHeartbeats 8000000 in
theorem r1Size_any (v : Value) (l : Sg.SList) (sg turn : Int) (w : World) (hr : RdSL w w.heap.size v l) : Calls Tryz.prog 35 #[v, .int .i64 sg, .int .i64 turn] w (Ret3I (Sg.sizeV l sg turn) w) := by
  have HRL := Lib.hid hr
  obtain ⟨⟨u, rfl, hgl⟩, hf⟩ := hr
  obtain ⟨A0, c0, rfl⟩ := hgl.form
  have HGL := Lib.hid hgl
  obtain ⟨W1, hW1⟩ : ∃ W1, W1 = w.alloc (.cells #[.int .i64 l.periods, .slice A0 l.signs.length c0] 24) := ⟨_, rfl⟩
  have hb1 : Below w.heap.size w W1 := by rw [hW1]; exact (Below.refl _ _).alloc (Nat.le_refl _) _
  have hX : W1.heap[w.heap.size]? = some (.cells #[.int .i64 l.periods, .slice A0 l.signs.length c0] 24 (0, 0)) := by rw [hW1]; exact heap_alloc_new _ _
  have hs1 : w.heap.size < W1.heap.size := (Array.getElem?_eq_some_iff.1 hX).1
  have CX : Hid (∀ W, Below W1.heap.size W1 W → W.cell? ⟨w.heap.size, 0, none⟩ = some (.int .i64 l.periods) ∧ W.cell? ⟨w.heap.size, 1, none⟩ = some (.slice A0 l.signs.length c0)) := Lib.hid fun W hW => by
    have p := (hW.block _ hs1).trans hX
    exact ⟨by simp [World.cell?, p], by simp [World.cell?, p]⟩
  obtain ⟨x0, x1⟩ := CX.out W1 (Below.refl _ _)
  have HB1 := Lib.hid hb1
  have HW1 := Lib.hid hW1
  have HCK := Lib.hid (r1Check_any _ l W1 (HRL.out.on hb1))
  obtain ⟨e1, he1⟩ : ∃ e1, e1 = Sg.checkV l := ⟨_, rfl⟩
  have HC0 : Hid (e1 = 0 → l.signs.length ≤ 200) := Lib.hid fun h => Sg.check_len (by rw [← he1]; exact h)
  have HE1 := Lib.hid he1
  rw [← he1] at HCK
  clear hW1 hb1 hX hgl hf he1
  go_enter Tryz.func35, Tryz.ntmps35
  go_upto_region 1 with fail
  rw [← HW1.out]
  go_wp2_with fail
  refine HCK.out.mono ?_
  rintro e w2 ⟨rfl, hb2⟩
  have HB2 := Lib.hid (HB1.out.trans (hb2.mono (by omega)))
  have H12 := Lib.hid hb2
  have hs2 := hb2.size
  obtain ⟨x0, x1⟩ := CX.out w2 hb2
  clear hb2
  by_cases h0 : e1 = 0
  case neg =>
    have HV : Hid (Sg.sizeV l sg turn = (0, 0, e1)) := Lib.hid (by
      have h : Sg.sizeE l sg turn = e1 := by unfold Sg.sizeE; rw [← HE1.out, if_pos h0]
      unfold Sg.sizeV
      rw [h]
      try rfl
      try rw [if_pos h0])
    go_wp2_with fail
    go_ret3
    exact Ret3I.of HV.out HB2.out
  subst h0
  have hsl := HC0.out rfl
  by_cases hbad : Sg.signBad l sg ∨ turn < 0 ∨ 3 < turn
  · have HV : Hid (Sg.sizeV l sg turn = (0, 0, 1)) := Lib.hid (by
      have h : Sg.sizeE l sg turn = 1 := by unfold Sg.sizeE; rw [← HE1.out, if_neg (by simp), if_pos hbad]
      unfold Sg.sizeV
      rw [h]
      try rfl
      try rw [if_pos h0])
    have hor : sg < 0 ∨ (¬ sg < 0 ∧ (l.signs.length : Int) ≤ sg) ∨ (¬ sg < 0 ∧ ¬ (l.signs.length : Int) ≤ sg ∧ turn < 0) ∨ (¬ sg < 0 ∧ ¬ (l.signs.length : Int) ≤ sg ∧ ¬ turn < 0 ∧ 3 < turn) := by unfold Sg.signBad at hbad; omega
    clear hbad
    rcases hor with h1 | ⟨h1, h2⟩ | ⟨h1, h2, h3⟩ | ⟨h1, h2, h3, h4⟩
    all_goals
      go_wp2_with fail
      go_ret3
      exact Ret3I.of HV.out HB2.out
  obtain ⟨q1, q2, q3, q4⟩ : ¬ sg < 0 ∧ ¬ (l.signs.length : Int) ≤ sg ∧ ¬ turn < 0 ∧ ¬ 3 < turn := by unfold Sg.signBad at hbad; omega
  obtain ⟨s, hs⟩ : ∃ s, l.signs[sg.toNat]? = some s := ⟨_, List.getElem?_eq_getElem (by omega)⟩
  have HV : Hid (Sg.sizeV l sg turn = if turn.tmod 2 = 1 then (s.high, s.wide, 0) else (s.wide, s.high, 0)) := Lib.hid (by
    have h : Sg.sizeE l sg turn = 0 := by unfold Sg.sizeE; rw [← HE1.out, if_neg (by simp), if_neg hbad]
    unfold Sg.sizeV
    rw [h, hs]
    simp)
  obtain ⟨b, off, rfl, hb, hcell⟩ := HGL.out.five (by omega)
  obtain ⟨uv, hrd, g0, g1, g2, g3, g4⟩ := hcell _ s hs
  have f0 := (HB2.out.cell (p := ⟨b, off + sg.toNat * 5, none⟩) hb).trans g0
  have f1 := (HB2.out.cell (p := ⟨b, off + sg.toNat * 5 + 1, none⟩) hb).trans g1
  have f2 := (HB2.out.cell (p := ⟨b, off + sg.toNat * 5 + 2, none⟩) hb).trans g2
  have f3 := (HB2.out.cell (p := ⟨b, off + sg.toNat * 5 + 3, none⟩) hb).trans g3
  have f4 := (HB2.out.cell (p := ⟨b, off + sg.toNat * 5 + 4, none⟩) hb).trans g4
  obtain ⟨A2, c2, rfl, hvc, hvm⟩ := rds_form hrd.rds
  have q5 : (0 : Int) ≤ sg := by omega
  have q6 : sg < (l.signs.length : Int) := by omega
  clear hs hcell g0 g1 g2 g3 g4 hrd hbad
  have htm : turn.tmod 2 = turn % 2 := Int.tmod_eq_emod_of_nonneg (by omega)
  rw [htm] at HV
  by_cases ht : turn % 2 = 1
  · have HR : Hid (Sg.sizeV l sg turn = (s.high, s.wide, 0)) := Lib.hid (by rw [HV.out, if_pos ht])
    go_wp2_with fail
    go_quiet (fail)
    go_wp2_with fail
    go_ret3
    exact Ret3I.of HR.out (below_drewN (HB2.out) _)
  · have HR : Hid (Sg.sizeV l sg turn = (s.wide, s.high, 0)) := Lib.hid (by rw [HV.out, if_neg ht])
    have ht' : (turn % 2 == 1) = false := by rw [beq_eq_false_iff_ne]; exact ht
    go_wp2_with fail
    go_quiet (fail)
    go_wp2_with fail
    go_ret3
    exact Ret3I.of HR.out (below_drewN (HB2.out) _)
end Go.Proofs.YtkmimjngmfdpmaaGreatDoor
