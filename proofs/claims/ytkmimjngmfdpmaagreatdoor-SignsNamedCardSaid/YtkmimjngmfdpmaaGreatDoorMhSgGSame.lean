/- Bearers of both sides. Made by gen_sgbrr.py. ostraconlaw01.SameInts. ostraconref01.Name. ostraconlaw01.Asked: a value that comes in. slices.Equal of values, signs.Same. Made by gen_ggsame.py. -/
import Derived.Test.YtkmimjngmfdpmaaGreatDoorMhSgAcc
import Derived.Test.YtkmimjngmfdpmaaGreatDoorMgSgSame
import Derived.Test.YtkmimjngmfdpmaaGreatDoorMgSgBear
import Derived.Test.YtkmimjngmfdpmaaGreatDoorMhRDec
import Derived.Test.YtkmimjngmfdpmaaGreatDoorMgSgOpen
namespace Go.Proofs.YtkmimjngmfdpmaaGreatDoor
open Go Go.RowKit
set_option maxRecDepth 100000 in
set_option maxHeartbeats 8000000 in
theorem gBearers_any (v : Value) (l : Sg.SList) (kind : Int) (tx : ByteArray) (per : Int) (w : World) (hr : RdSL w w.heap.size v l) : Calls Tryz.prog 28 #[v, .int .i64 kind, .string tx, .int .i64 per] w (RetIntsE (Sg.bearQ l kind tx per) (Sg.bearE l kind per) w) := by
  have HRL := Lib.hid hr
  obtain ⟨⟨u, rfl, hgl⟩, hf⟩ := hr
  obtain ⟨A0, c0, rfl⟩ := hgl.form
  have HGL := Lib.hid hgl
  obtain ⟨W1, hW1⟩ : ∃ W1, W1 = w.alloc (.cells #[.int .i64 l.periods, .slice A0 l.signs.length c0] 24) := ⟨_, rfl⟩
  have hb1 : Below w.heap.size w W1 := by rw [hW1]; exact (Below.refl _ _).alloc (Nat.le_refl _) _
  have hX : W1.heap[w.heap.size]? = some (.cells #[.int .i64 l.periods, .slice A0 l.signs.length c0] 24 (0, 0)) := by rw [hW1]; exact heap_alloc_new _ _
  have hs1 : w.heap.size < W1.heap.size := (Array.getElem?_eq_some_iff.1 hX).1
  have CX : Hid (∀ W, Below W1.heap.size W1 W → W.cell? ⟨w.heap.size, 0, none⟩ = some (.int .i64 l.periods) ∧ W.cell? ⟨w.heap.size, 1, none⟩ = some (.slice A0 l.signs.length c0)) := Lib.hid fun W hW => by
    have p := (hW.block _ hs1).trans hX
    exact ⟨by simp [World.cell?, p], by simp [World.cell?, p]⟩
  obtain ⟨x0, x1⟩ := CX.out W1 (Below.refl _ _)
  have HB1 := Lib.hid hb1
  have HW1 := Lib.hid hW1
  have HCK := Lib.hid (gCheck_any _ l W1 (HRL.out.on hb1))
  obtain ⟨e1, he1⟩ : ∃ e1, e1 = Sg.checkV l := ⟨_, rfl⟩
  have HC0 : Hid (e1 = 0 → l.signs.length ≤ 200) := Lib.hid fun h => Sg.check_len (by rw [← he1]; exact h)
  have HE1 := Lib.hid he1
  rw [← he1] at HCK
  clear hW1 hb1 hX hgl hf he1
  go_enter Tryz.func28, Tryz.ntmps28
  go_upto_region 1 with fail
  rw [← HW1.out]
  go_wp2_with fail
  refine HCK.out.mono ?_
  rintro e w2 ⟨rfl, hb2⟩
  have HB2 := Lib.hid (HB1.out.trans (hb2.mono (by omega)))
  have H12 := Lib.hid hb2
  have hs2 := hb2.size
  obtain ⟨x0, x1⟩ := CX.out w2 hb2
  clear hb2
  by_cases h0 : e1 = 0
  case neg =>
    have HCL : Hid (¬ Sg.checkV l = 0) := Lib.hid (by rw [← HE1.out]; exact h0)
    have HV : Hid (Sg.bearE l kind per = e1) := Lib.hid (by unfold Sg.bearE; rw [if_pos HCL.out, ← HE1.out])
    have HQ : Hid (Sg.bearQ l kind tx per = []) := Lib.hid (by unfold Sg.bearQ; rw [if_neg (by rw [HV.out]; exact h0)])
    go_wp2_with fail
    go_ret2
    exact RetIntsE.no HQ.out HV.out HB2.out
  subst h0
  have hsl := HC0.out rfl
  have HCL : Hid (Sg.checkV l = 0) := Lib.hid HE1.out.symm
  by_cases hkb : kind < 1 ∨ 3 < kind
  · have HV : Hid (Sg.bearE l kind per = 1) := Lib.hid (by unfold Sg.bearE; rw [if_neg (by rw [HCL.out]; simp), if_pos hkb])
    have HQ : Hid (Sg.bearQ l kind tx per = []) := Lib.hid (by unfold Sg.bearQ; rw [if_neg (by rw [HV.out]; decide)])
    have hor : kind < 1 ∨ (¬ kind < 1 ∧ 3 < kind) := by omega
    clear hkb
    rcases hor with h1 | ⟨h1, h2⟩
    all_goals
      go_wp2_with fail
      go_ret2
      exact RetIntsE.no HQ.out HV.out HB2.out
  obtain ⟨q1, q2⟩ : ¬ kind < 1 ∧ ¬ 3 < kind := by omega
  obtain ⟨e2, he2⟩ : ∃ e2, e2 = Sg.perE l per := ⟨_, rfl⟩
  have HCP := Lib.hid fun W => gCheckPeriod_any l A0 l.signs.length c0 per W
  rw [← he2] at HCP
  have HE2 := Lib.hid he2
  clear he2
  go_wp2_with fail
  refine (HCP.out _).mono ?_
  rintro e w3 ⟨rfl, hb3⟩
  have HB3 := Lib.hid (HB2.out.trans (hb3.mono HB2.out.size))
  have H13 := Lib.hid (H12.out.trans (hb3.mono hs2))
  obtain ⟨x0, x1⟩ := CX.out w3 H13.out
  have hs3 := hb3.size
  clear hb3
  by_cases h0 : e2 = 0
  case neg =>
    have HV : Hid (Sg.bearE l kind per = e2) := Lib.hid (by unfold Sg.bearE; rw [if_neg (by rw [HCL.out]; simp), if_neg hkb, HE2.out]; rfl)
    have HQ : Hid (Sg.bearQ l kind tx per = []) := Lib.hid (by unfold Sg.bearQ; rw [if_neg (by rw [HV.out]; exact h0)])
    go_wp2_with fail
    go_ret2
    exact RetIntsE.no HQ.out HV.out HB3.out
  have hpb : ¬ Sg.perBad l per := by have := HE2.out; rw [h0] at this; unfold Sg.perE at this; intro h; rw [if_pos h] at this; cases this
  subst h0
  have HV0 : Hid (Sg.bearE l kind per = 0) := Lib.hid (by unfold Sg.bearE; rw [if_neg (by rw [HCL.out]; simp), if_neg hkb, if_neg hpb])
  have HQ0 : Hid (Sg.bearQ l kind tx per = Sg.bearV l.signs kind tx per) := Lib.hid (by unfold Sg.bearQ; rw [if_pos HV0.out])
  have HBL := Lib.hid (gBearersL_any _ l kind tx per w3 (HRL.out.on HB3.out) (by omega))
  clear hkb hpb
  go_wp2_with fail
  refine HBL.out.mono ?_
  rintro e w4 ⟨v4, rfl, hown, hb4⟩
  have HB4 := Lib.hid (HB3.out.trans (hb4.mono HB3.out.size))
  have HRQ := Lib.hid (rds_of_own len_int hown)
  obtain ⟨A4, c4, rfl⟩ := own_form hown
  clear hb4 hown
  go_wp2_with fail
  go_ret2
  rw [HQ0.out, HV0.out]
  exact ⟨_, rfl, HRQ.out, HB4.out⟩
set_option maxRecDepth 100000 in
set_option maxHeartbeats 8000000 in
theorem r1Bearers_any (v : Value) (l : Sg.SList) (kind : Int) (tx : ByteArray) (per : Int) (w : World) (hr : RdSL w w.heap.size v l) (hvl : ∀ s ∈ l.signs, s.values.length ≤ 1000) : Calls Tryz.prog 29 #[v, .int .i64 kind, .string tx, .int .i64 per] w (RetIntsE (Sg.bearQ l kind tx per) (Sg.bearE l kind per) w) := by
  have HRL := Lib.hid hr
  obtain ⟨⟨u, rfl, hgl⟩, hf⟩ := hr
  obtain ⟨A0, c0, rfl⟩ := hgl.form
  have HGL := Lib.hid hgl
  obtain ⟨W1, hW1⟩ : ∃ W1, W1 = w.alloc (.cells #[.int .i64 l.periods, .slice A0 l.signs.length c0] 24) := ⟨_, rfl⟩
  have hb1 : Below w.heap.size w W1 := by rw [hW1]; exact (Below.refl _ _).alloc (Nat.le_refl _) _
  have hX : W1.heap[w.heap.size]? = some (.cells #[.int .i64 l.periods, .slice A0 l.signs.length c0] 24 (0, 0)) := by rw [hW1]; exact heap_alloc_new _ _
  have hs1 : w.heap.size < W1.heap.size := (Array.getElem?_eq_some_iff.1 hX).1
  have CX : Hid (∀ W, Below W1.heap.size W1 W → W.cell? ⟨w.heap.size, 0, none⟩ = some (.int .i64 l.periods) ∧ W.cell? ⟨w.heap.size, 1, none⟩ = some (.slice A0 l.signs.length c0)) := Lib.hid fun W hW => by
    have p := (hW.block _ hs1).trans hX
    exact ⟨by simp [World.cell?, p], by simp [World.cell?, p]⟩
  obtain ⟨x0, x1⟩ := CX.out W1 (Below.refl _ _)
  have HB1 := Lib.hid hb1
  have HW1 := Lib.hid hW1
  have HCK := Lib.hid (r1Check_any _ l W1 (HRL.out.on hb1))
  obtain ⟨e1, he1⟩ : ∃ e1, e1 = Sg.checkV l := ⟨_, rfl⟩
  have HC0 : Hid (e1 = 0 → l.signs.length ≤ 200) := Lib.hid fun h => Sg.check_len (by rw [← he1]; exact h)
  have HE1 := Lib.hid he1
  rw [← he1] at HCK
  clear hW1 hb1 hX hgl hf he1
  go_enter Tryz.func29, Tryz.ntmps29
  go_upto_region 1 with fail
  rw [← HW1.out]
  go_wp2_with fail
  refine HCK.out.mono ?_
  rintro e w2 ⟨rfl, hb2⟩
  have HB2 := Lib.hid (HB1.out.trans (hb2.mono (by omega)))
  have H12 := Lib.hid hb2
  have hs2 := hb2.size
  obtain ⟨x0, x1⟩ := CX.out w2 hb2
  clear hb2
  have HVL := Lib.hid hvl
  clear hvl
  by_cases h0 : e1 = 0
  case neg =>
    have HCL : Hid (¬ Sg.checkV l = 0) := Lib.hid (by rw [← HE1.out]; exact h0)
    have HV : Hid (Sg.bearE l kind per = e1) := Lib.hid (by unfold Sg.bearE; rw [if_pos HCL.out, ← HE1.out])
    have HQ : Hid (Sg.bearQ l kind tx per = []) := Lib.hid (by unfold Sg.bearQ; rw [if_neg (by rw [HV.out]; exact h0)])
    go_wp2_with fail
    go_ret2
    exact RetIntsE.no HQ.out HV.out HB2.out
  subst h0
  have hsl := HC0.out rfl
  have HCL : Hid (Sg.checkV l = 0) := Lib.hid HE1.out.symm
  by_cases hkb : kind < 1 ∨ 3 < kind
  · have HV : Hid (Sg.bearE l kind per = 1) := Lib.hid (by unfold Sg.bearE; rw [if_neg (by rw [HCL.out]; simp), if_pos hkb])
    have HQ : Hid (Sg.bearQ l kind tx per = []) := Lib.hid (by unfold Sg.bearQ; rw [if_neg (by rw [HV.out]; decide)])
    have hor : kind < 1 ∨ (¬ kind < 1 ∧ 3 < kind) := by omega
    clear hkb
    rcases hor with h1 | ⟨h1, h2⟩
    all_goals
      go_wp2_with fail
      go_ret2
      exact RetIntsE.no HQ.out HV.out HB2.out
  obtain ⟨q1, q2⟩ : ¬ kind < 1 ∧ ¬ 3 < kind := by omega
  by_cases hpb : Sg.perBad l per
  · have HV : Hid (Sg.bearE l kind per = 13) := Lib.hid (by unfold Sg.bearE; rw [if_neg (by rw [HCL.out]; simp), if_neg hkb, if_pos hpb])
    have HQ : Hid (Sg.bearQ l kind tx per = []) := Lib.hid (by unfold Sg.bearQ; rw [if_neg (by rw [HV.out]; decide)])
    have hor : per < 1 ∨ (¬ per < 1 ∧ l.periods < per) := by unfold Sg.perBad at hpb; omega
    clear hpb
    rcases hor with h1 | ⟨h1, h2⟩
    all_goals
      go_wp2_with fail
      go_ret2
      exact RetIntsE.no HQ.out HV.out HB2.out
  obtain ⟨q3, q4⟩ : ¬ per < 1 ∧ ¬ l.periods < per := by unfold Sg.perBad at hpb; omega
  obtain ⟨w3, hw3⟩ : ∃ w3, w3 = w2 := ⟨_, rfl⟩
  have HB3 := HB2
  have H13 := H12
  have HV0 : Hid (Sg.bearE l kind per = 0) := Lib.hid (by unfold Sg.bearE; rw [if_neg (by rw [HCL.out]; simp), if_neg hkb, if_neg hpb])
  have HQ0 : Hid (Sg.bearQ l kind tx per = Sg.bearV l.signs kind tx per) := Lib.hid (by unfold Sg.bearQ; rw [if_pos HV0.out])
  clear hkb hpb hw3
  obtain ⟨i1, hi1, hz1, hs1', hb1'⟩ := info_parts info_int
  have CX1 : Hid (∀ W, Below w2.heap.size w2 W → W.cell? ⟨w.heap.size, 1, none⟩ = some (.slice A0 l.signs.length c0)) := Lib.hid fun W hW => (CX.out W (H12.out.trans (hW.mono hs2))).2
  go_wp2_with fail
  clear x0 x1
  go_loopg [11, 12] l.signs.length (fun g vv i wr => ∃ (k : Nat) (q : List Int), k ≤ l.signs.length ∧ g = l.signs.length - k ∧ i = .int .i64 k ∧ Below w2.heap.size w2 wr ∧ wr.ownsRow w2.heap.size 3 1 vv q.length (q.flatMap encInt) ∧ q = Sg.bearTo l.signs kind tx per k)
  case atStart => exact ⟨0, [], Nat.zero_le _, rfl, rfl, Below.refl _ _, World.ownsRow_nil _ _ _ _, rfl⟩
  case round =>
    obtain ⟨k, q, hk, rfl, rfl, hbel, hown, hq⟩ := hrel
    obtain ⟨Av, cv, rfl⟩ := own_form hown
    have HBK := Lib.hid hbel
    have HOK := Lib.hid hown
    have HQ := Lib.hid hq
    have hszr := hbel.size
    have hql : q.length ≤ k := by rw [hq]; exact Sg.bearTo_len _ _ _ _ _
    have HBW : Hid (Below w.heap.size w wr) := Lib.hid (HB2.out.trans (hbel.mono HB2.out.size))
    have x1 := CX1.out wr hbel
    clear hbel hown hq
    by_cases hlt : k < l.signs.length
    · obtain ⟨b, off, rfl, hb, hcell⟩ := HGL.out.five (by omega)
      obtain ⟨s, hs⟩ : ∃ s, l.signs[k]? = some s := ⟨_, List.getElem?_eq_getElem hlt⟩
      obtain ⟨uv, hrd, g0, g1, g2, g3, g4⟩ := hcell k s hs
      have f0 := (HBW.out.cell (p := ⟨b, off + k * 5, none⟩) hb).trans g0
      have f1 := (HBW.out.cell (p := ⟨b, off + k * 5 + 1, none⟩) hb).trans g1
      have f2 := (HBW.out.cell (p := ⟨b, off + k * 5 + 2, none⟩) hb).trans g2
      have f3 := (HBW.out.cell (p := ⟨b, off + k * 5 + 3, none⟩) hb).trans g3
      have f4 := (HBW.out.cell (p := ⟨b, off + k * 5 + 4, none⟩) hb).trans g4
      have HRV : Hid (RdS wr wr.heap.size 4 encValue uv s.values) := Lib.hid ((hrd.rds.below HBW.out).more HBW.out.size)
      have HCV := Lib.hid (r1has_any s uv kind tx per wr HRV.out (HVL.out s (List.mem_of_getElem? hs)))
      obtain ⟨hh, hhb⟩ : ∃ hh, hh = Sg.hasB s kind tx per := ⟨_, rfl⟩
      have HHB : Hid (Sg.hasB s kind tx per = hh) := Lib.hid hhb.symm
      rw [← hhb] at HCV
      have HS := Lib.hid hs
      have hkI : (0 : Int) ≤ (k : Int) := by omega
      have hkJ : (k : Int) < (l.signs.length : Int) := by omega
      clear hcell hs g0 g1 g2 g3 g4 hrd hhb
      go_wp2_with fail
      refine HCV.out.mono ?_
      rintro e w4 ⟨rfl, hb4⟩
      have HB4 : Hid (Below w2.heap.size w2 w4) := Lib.hid (HBK.out.trans (hb4.mono hszr))
      have HBR4 := Lib.hid hb4
      have hsz4 := hb4.size
      clear hb4 f0 f1 f2 f3 f4 x1
      cases hh
      · have HNX := Lib.hid (Sg.bearTo_no HS.out HHB.out)
        have HO4 := Lib.hid (keep_own HOK.out HBR4.out)
        go_wp2_with fail
        go_roundg (l.signs.length - (k + 1))
        case measure => omega
        case rel => exact ⟨k + 1, q, by omega, rfl, by go_num, HB4.out, HO4.out, by rw [HNX.out]; exact HQ.out⟩
      · have HNX := Lib.hid (Sg.bearTo_yes HS.out HHB.out)
        have HOS : Hid ((w4.alloc (.cells #[.int .i64 (k : Int)] 3)).ownsRow w2.heap.size 3 1 (.slice Av q.length cv) q.length (q.flatMap encInt)) := Lib.hid (keep_own HOK.out (HBR4.out.alloc (by omega) _))
        have HRD := Lib.hid (rd_one_int w4 (k : Int))
        have hk1 : q.length + 1 ≤ maxLen := by simp only [maxLen]; omega
        have hk2 : (q.length + 1) * 8 ≤ 140737488355328 := by omega
        have hbase : w2.heap.size ≤ (w4.alloc (.cells #[.int .i64 (k : Int)] 3)).heap.size := by simp; omega
        go_wp2_with (at_builtin; go_must (refine wpList_append_rd (enc := encInt) rfl (.tmp 48) (.tmp 50) _ rfl w2.heap.size 3 i1 _ 1 8 len_int one_int Tryz.underlying42 hi1 hz1 hs1' hb1' rfl (by decide) (.slice Av q.length cv) q.length (q.flatMap encInt) rfl HOS.out _ (.slice (some ⟨w4.heap.size, 0, none⟩) 1 1) [(k : Int)] rfl HRD.out hk1 hk2 hbase ?_))
        intro v8 w8 hown8 hg8 hat8
        have HB8 : Hid (Below w2.heap.size w2 w8) := Lib.hid ((HB4.out.alloc (by omega) _).grown hg8 (by simp; omega) (fun q hq => (HOS.out.lt q hq).1))
        have HO8 := Lib.hid (own_int hown8)
        clear hown8 hg8 hat8
        go_wp2_with fail
        go_roundg (l.signs.length - (k + 1))
        case measure => omega
        case rel => exact ⟨k + 1, q ++ [(k : Int)], by omega, rfl, by go_num, HB8.out, HO8.out, by rw [HNX.out, ← HQ.out]⟩
    · have HE : Hid (q = Sg.bearV l.signs kind tx per) := Lib.hid (by
        rw [HQ.out]
        have : k = l.signs.length := by omega
        rw [this]; rfl)
      have HRQ := Lib.hid (rds_of_own len_int HOK.out)
      have hkJ : ¬ (k : Int) < (l.signs.length : Int) := by omega
      go_wp2_with fail
      go_ret2
      rw [HQ0.out, HV0.out]
      exact ⟨_, rfl, by rw [← HE.out]; exact HRQ.out, HBW.out⟩
end Go.Proofs.YtkmimjngmfdpmaaGreatDoor
namespace Go.Proofs.YtkmimjngmfdpmaaGreatDoor
open Go Go.RowKit

theorem rds_on {α : Type} {w w' : World} {size : Nat} {enc : α → List Value} {v : Value} {xs : List α} (h : RdS w w.heap.size size enc v xs) (hb : Below w.heap.size w w') : RdS w' w'.heap.size size enc v xs := (h.below hb).more hb.size
theorem ints_ex {w : World} {B n c : Nat} {A : Option Addr} {xs : List Int} (h : RdS w B 1 encInt (.slice A n c) xs) (h0 : 0 < xs.length) :
    ∃ b off, A = some ⟨b, off, none⟩ ∧ b < B ∧ ∀ k x, xs[k]? = some x → w.cell? ⟨b, off + k, none⟩ = some (.int .i64 x) := by
  obtain ⟨A', c', e, _, _, h⟩ := h
  obtain ⟨b, off, e', hb, hc⟩ := h h0
  injection e with e1 e2 e3
  refine ⟨b, off, e1.trans e', hb, fun k x hk => ?_⟩
  have := hc k x hk 0 _ rfl
  simpa using this
set_option maxRecDepth 100000 in
set_option maxHeartbeats 4000000 in
theorem l1SameInts_any {B B' : Nat} (v v' : Value) (xs : List Int) (w : World) (hx : RdS w B 1 encInt v xs) (hy : RdS w B' 1 encInt v' xs) : Calls Tryz.prog 30 #[v, v'] w (RetBB true w) := by
  obtain ⟨A, c, rfl, hlc, hc63⟩ := rds_form hx
  obtain ⟨A', c', rfl, hlc', hc63'⟩ := rds_form hy
  have HX := Lib.hid hx
  have HY := Lib.hid hy
  clear hx hy
  go_enter Tryz.func30, Tryz.ntmps30
  go_wp2_with fail
  go_loopg [5] xs.length (fun g i wr => ∃ k : Nat, k ≤ xs.length ∧ g = xs.length - k ∧ i = .int .i64 k ∧ (∃ n, wr = w.drewN n))
  case atStart => exact ⟨0, Nat.zero_le _, rfl, rfl, ⟨0, rfl⟩⟩
  case round =>
    obtain ⟨k, hk, rfl, rfl, ⟨nd, hwr⟩⟩ := hrel
    have HB : Hid (Below w.heap.size w wr) := Lib.hid (by rw [hwr]; exact below_drewN (Below.refl _ _) _)
    have HCE : Hid (∀ p, wr.cell? p = w.cell? p) := Lib.hid fun p => by rw [hwr]; rfl
    have HWR : Hid (∀ n, ∃ m, wr.drewN n = w.drewN m) := Lib.hid fun n => ⟨nd + n, by rw [hwr]; exact (World.drewN_drewN _ _ _)⟩
    clear hwr
    by_cases hlt : k < xs.length
    · obtain ⟨e, he⟩ : ∃ e, xs[k]? = some e := ⟨_, List.getElem?_eq_getElem hlt⟩
      obtain ⟨b, off, rfl, hb, hcell⟩ := ints_ex HX.out (by omega)
      obtain ⟨b', off', rfl, hb', hcell'⟩ := ints_ex HY.out (by omega)
      have f0 := (HCE.out ⟨b, off + k, none⟩).trans (hcell k e he)
      have f1 := (HCE.out ⟨b', off' + k, none⟩).trans (hcell' k e he)
      have hkI : (0 : Int) ≤ (k : Int) := by omega
      have hkJ : (k : Int) < (xs.length : Int) := by omega
      clear he hcell hcell'
      go_wp2_with fail
      go_quiet (fail)
      go_wp2_with fail
      go_roundg (xs.length - (k + 1))
      case measure => omega
      case rel => exact ⟨k + 1, by omega, rfl, by go_num, HWR.out _⟩
    · go_wp2_with fail
      go_ret
      exact ⟨rfl, HB.out⟩
end Go.Proofs.YtkmimjngmfdpmaaGreatDoor
namespace Go.Proofs.YtkmimjngmfdpmaaGreatDoor
open Go Go.RowKit

theorem Sg.valuesE_ok {l : Sg.SList} {sg per : Int} (h : Sg.valuesE l sg per = 0) : Sg.bearE l 1 per = 0 ∧ Sg.checkV l = 0 := by
  unfold Sg.valuesE at h
  unfold Sg.bearE
  by_cases h0 : Sg.checkV l = 0
  · rw [if_neg (by simp [h0])] at h
    by_cases h1 : Sg.signBad l sg
    · rw [if_pos h1] at h; cases h
    · rw [if_neg h1] at h
      by_cases h2 : Sg.perBad l per
      · rw [if_pos h2] at h; cases h
      · exact ⟨by rw [if_neg (by simp [h0]), if_neg (by decide), if_neg h2], h0⟩
  · rw [if_pos h0] at h
    exact absurd h h0
theorem Sg.bearV_len (l : List Sg.Sign) (kind : Int) (text : ByteArray) (p : Int) : (Sg.bearV l kind text p).length ≤ l.length := Sg.bearTo_len l kind text p l.length
theorem Sg.nameV_hit {l : Sg.SList} {sg per : Int} {t : ByteArray} {k : Nat} (h : Sg.valuesE l sg per = 0) (hk : (Sg.bearV l.signs 1 t per)[k]? = some sg) (hn : ∀ j, j < k → (Sg.bearV l.signs 1 t per)[j]? ≠ some sg) :
    Sg.nameV l sg t per = if k = 0 then (t, 0) else (t ++ Sg.bs (Lib.itoa ((k : Int) + 1)), 0) := by
  unfold Sg.nameV
  rw [if_neg (by rw [h]; simp), Sg.placeOf_at hk hn]
  unfold Sg.nameAt
  rw [if_neg (by omega)]
  by_cases h0 : k = 0
  · rw [if_pos h0, if_pos (by omega)]
  · rw [if_neg h0, if_neg (by omega)]
theorem Sg.nameV_none {l : Sg.SList} {sg per : Int} {t : ByteArray} (h : Sg.valuesE l sg per = 0) (hn : ∀ j, j < (Sg.bearV l.signs 1 t per).length → (Sg.bearV l.signs 1 t per)[j]? ≠ some sg) : Sg.nameV l sg t per = (⟨#[]⟩, 3) := by
  unfold Sg.nameV
  rw [if_neg (by rw [h]; simp), Sg.placeOf_none (fun hm => by
    obtain ⟨i, hi, e⟩ := List.mem_iff_getElem.1 hm
    exact hn i hi (by rw [List.getElem?_eq_getElem hi, e]))]
  rfl
theorem none_more {q : List Int} {x e : Int} {k : Nat} (h : ∀ j, j < k → q[j]? ≠ some x) (hk : q[k]? = some e) (hne : e ≠ x) : ∀ j, j < k + 1 → q[j]? ≠ some x := fun j hj => by
  rcases Nat.lt_or_ge j k with h' | h'
  · exact h j h'
  · obtain rfl : j = k := by omega
    rw [hk]
    intro e'
    injection e' with e'
    exact hne e'
set_option maxRecDepth 100000 in
set_option maxHeartbeats 4000000 in
theorem r1Name_any (v : Value) (l : Sg.SList) (sg : Int) (t : ByteArray) (per : Int) (w : World) (hr : RdSL w w.heap.size v l) (hvl : ∀ s ∈ l.signs, s.values.length ≤ 1000) (ht : t.size ≤ 1000000) :
    Calls Tryz.prog 20 #[v, .int .i64 sg, .string t, .int .i64 per] w (RetSE (Sg.nameV l sg t per) w) := by
  have HRL := Lib.hid fun (W : World) (hW : Below w.heap.size w W) => hr.on hW
  obtain ⟨⟨u, rfl, hgl⟩, hf⟩ := hr
  obtain ⟨A0, c0, rfl⟩ := hgl.form
  obtain ⟨W1, hW1⟩ : ∃ W1, W1 = w.alloc (.cells #[.int .i64 l.periods, .slice A0 l.signs.length c0] 24) := ⟨_, rfl⟩
  have hb1 : Below w.heap.size w W1 := by rw [hW1]; exact (Below.refl _ _).alloc (Nat.le_refl _) _
  have hX : W1.heap[w.heap.size]? = some (.cells #[.int .i64 l.periods, .slice A0 l.signs.length c0] 24 (0, 0)) := by rw [hW1]; exact heap_alloc_new _ _
  have hs1 : w.heap.size < W1.heap.size := (Array.getElem?_eq_some_iff.1 hX).1
  have CX : Hid (∀ W, Below W1.heap.size W1 W → W.cell? ⟨w.heap.size, 0, none⟩ = some (.int .i64 l.periods) ∧ W.cell? ⟨w.heap.size, 1, none⟩ = some (.slice A0 l.signs.length c0)) := Lib.hid fun W hW => by
    have p := (hW.block _ hs1).trans hX
    exact ⟨by simp [World.cell?, p], by simp [World.cell?, p]⟩
  obtain ⟨x0, x1⟩ := CX.out W1 (Below.refl _ _)
  have HB1 := Lib.hid hb1
  have HW1 := Lib.hid hW1
  have HTS := Lib.hid ht
  have HVC := Lib.hid (r1Values_any _ l sg per W1 (HRL.out W1 hb1) hvl)
  have HBC := Lib.hid fun (W : World) (hW : Below w.heap.size w W) => r1Bearers_any _ l 1 t per W (HRL.out W hW) hvl
  obtain ⟨e1, he1⟩ : ∃ e1, e1 = Sg.valuesE l sg per := ⟨_, rfl⟩
  have HE1 := Lib.hid he1
  rw [← he1] at HVC
  clear hgl hf hW1 hb1 hX he1 hvl ht
  go_enter Tryz.func20, Tryz.ntmps20
  go_upto_region 1 with fail
  rw [← HW1.out]
  go_wp2_with fail
  refine HVC.out.mono ?_
  rintro e w2 ⟨va, rfl, hva, hb2⟩
  have HB2 := Lib.hid (HB1.out.trans (hb2.mono (by omega)))
  have HCX := Lib.hid (CX.out w2 hb2)
  clear hb2 hva x0 x1
  obtain ⟨x0, x1⟩ := HCX.out
  by_cases h0 : e1 = 0
  case neg =>
    have HV : Hid (Sg.nameV l sg t per = (⟨#[]⟩, e1)) := Lib.hid (by unfold Sg.nameV; rw [if_pos (by rw [← HE1.out]; exact h0), ← HE1.out])
    go_wp2_with fail
    go_ret2
    exact RetSE.of HV.out HB2.out
  subst h0
  have HOK := Lib.hid (Sg.valuesE_ok HE1.out.symm)
  have HQ : Hid (Sg.bearQ l 1 t per = Sg.bearV l.signs 1 t per) := Lib.hid (by unfold Sg.bearQ; rw [if_pos HOK.out.1])
  have hn : (Sg.bearV l.signs 1 t per).length ≤ 200 := by
    have h1 := Sg.bearV_len l.signs 1 t per
    have h2 := Sg.check_len HOK.out.2
    omega
  obtain ⟨q, hq⟩ : ∃ q, q = Sg.bearV l.signs 1 t per := ⟨_, rfl⟩
  rw [← hq] at HQ hn
  have HQE := Lib.hid hq
  clear hq
  go_wp2_with fail
  refine (HBC.out w2 HB2.out).mono ?_
  rw [HQ.out, HOK.out.1]
  rintro e w3 ⟨vb, rfl, hvb, hb3⟩
  have HB3 := Lib.hid (HB2.out.trans (hb3.mono HB2.out.size))
  have HRB := Lib.hid hvb
  obtain ⟨A, c, rfl, hlc, hc63⟩ := rds_form hvb
  clear hb3 hvb x0 x1
  go_wp2_with fail
  go_loopg [14] q.length (fun g i wr => ∃ k : Nat, k ≤ q.length ∧ g = q.length - k ∧ i = .int .i64 k ∧ wr = w3 ∧ ∀ j, j < k → q[j]? ≠ some sg)
  case atStart => exact ⟨0, Nat.zero_le _, rfl, rfl, rfl, fun j hj => by omega⟩
  case round =>
    obtain ⟨k, hk, rfl, rfl, rfl, hno⟩ := hrel
    have HNO := Lib.hid hno
    clear hno
    by_cases hlt : k < q.length
    · obtain ⟨e, he⟩ : ∃ e, q[k]? = some e := ⟨_, List.getElem?_eq_getElem hlt⟩
      obtain ⟨b, off, rfl, hb, hcell⟩ := ints_ex HRB.out (by omega)
      have f0 := hcell k e he
      have HE := Lib.hid he
      have hkI : (0 : Int) ≤ (k : Int) := by omega
      have hkJ : (k : Int) < (q.length : Int) := by omega
      clear he hcell
      by_cases hes : e = sg
      · subst hes
        have HHIT : Hid (Sg.nameV l e t per = if k = 0 then (t, 0) else (t ++ Sg.bs (Lib.itoa ((k : Int) + 1)), 0)) := Lib.hid (Sg.nameV_hit HE1.out.symm (by rw [← HQE.out]; exact HE.out) (by rw [← HQE.out]; exact HNO.out))
        by_cases hk0 : k = 0
        · subst hk0
          rw [Nat.add_zero] at f0
          have HV : Hid (Sg.nameV l e t per = (t, 0)) := Lib.hid (by rw [HHIT.out, if_pos rfl])
          go_wp2_with fail
          go_ret2
          exact RetSE.of HV.out HB3.out
        · have HV : Hid (Sg.nameV l e t per = (t ++ Sg.bs (Lib.itoa ((k : Int) + 1)), 0)) := Lib.hid (by rw [HHIT.out, if_neg hk0])
          have hk1 : ((k : Int) == 0) = false := by rw [beq_eq_false_iff_ne]; omega
          have HD : Hid (Calls Tryz.prog 55 #[.int .i64 ((k : Int) + 1)] wr (fun e w' => e = .returned (.string (Sg.bs (Lib.itoa ((k : Int) + 1)))) ∧ w' = wr)) := Lib.hid (r1Dec_any ((k : Int) + 1) (by omega) wr)
          have hil : (Sg.bs (Lib.itoa ((k : Int) + 1))).size ≤ 21 := by show (Lib.itoa ((k : Int) + 1)).length ≤ 21; exact Lib.itoa_length_le _ (by omega) (by omega)
          generalize Sg.bs (Lib.itoa ((k : Int) + 1)) = sfx at HV HD hil
          clear hk0 HHIT
          go_wp2_with fail
          refine HD.out.mono ?_
          rintro e' w4 ⟨rfl, rfl⟩
          have ht := HTS.out
          go_wp2_with fail
          go_ret2
          exact RetSE.of HV.out HB3.out
      · have HNX := Lib.hid (none_more HNO.out HE.out hes)
        have hes' : (e == sg) = false := by rw [beq_eq_false_iff_ne]; exact hes
        clear hes
        go_wp2_with fail
        go_roundg (q.length - (k + 1))
        case measure => omega
        case rel => exact ⟨k + 1, by omega, rfl, by go_num, rfl, HNX.out⟩
    · have HV : Hid (Sg.nameV l sg t per = (⟨#[]⟩, 3)) := Lib.hid (Sg.nameV_none HE1.out.symm (by rw [← HQE.out]; exact fun j hj => HNO.out j (by omega)))
      have hkJ : ¬ (k : Int) < (q.length : Int) := by omega
      go_wp2_with fail
      go_ret2
      exact RetSE.of HV.out HB3.out
end Go.Proofs.YtkmimjngmfdpmaaGreatDoor
namespace Go.Proofs.YtkmimjngmfdpmaaGreatDoor
open Go.ChangeShapes Go.WideShapes Go.ChangeAt Go.RowKit Go.Joins Go.Deep

structure Sg.Asked where
  kind : Int
  text : ByteArray
  per : Int
def Sg.Asked.val (q : Sg.Asked) : Value := .agg #[.int .i64 q.kind, .string q.text, .int .i64 q.per]
set_option maxRecDepth 100000 in
theorem open_asked {H : Type} {enc : TypeId × Value → H} {w : World} {base : Nat} {spare : Nat → Bool} {held : Bool} {r : Reach} {b0 : Nat} {v : Value} {d : DataW H} {p : List MemPlace} (hv : Value.okWide Tryz.prog w r b0 26 v) (h : DataW.Trod enc Tryz.prog w base spare held 26 v d p) : ∃ x : Sg.Asked, v = x.val := by
  obtain ⟨v0, v1, v2, y0, y1, y2, n, rfl, _, _, h0, h1, h2⟩ := open_agg3 Tryz.underlying26 (by kernel_rfl) (by kernel_rfl) hv h
  obtain ⟨a, e0, _, _⟩ := DataW.trod_int Tryz.underlying3 h0
  cases e0
  obtain ⟨b, e1, _, _⟩ := DataW.trod_string Tryz.underlying9 h1
  cases e1
  obtain ⟨c, e2, _, _⟩ := DataW.trod_int Tryz.underlying3 h2
  cases e2
  exact ⟨⟨a, b, c⟩, rfl⟩
end Go.Proofs.YtkmimjngmfdpmaaGreatDoor
namespace Go.Proofs.YtkmimjngmfdpmaaGreatDoor
open Go Go.RowKit

set_option maxRecDepth 100000 in
set_option maxHeartbeats 4000000 in
theorem eqValue_any {B B' : Nat} (v v' : Value) (xs ys : List Sg.Value) (w : World) (hx : RdS w B 4 encValue v xs) (hy : RdS w B' 4 encValue v' ys) : Calls Tryz.prog 74 #[v, v'] w (RetEq (xs = ys) w) := by
  obtain ⟨A, c, rfl, hlc, hc63⟩ := rds_form hx
  obtain ⟨A', c', rfl, hlc', hc63'⟩ := rds_form hy
  have HX := Lib.hid hx
  have HY := Lib.hid hy
  clear hx hy
  by_cases hlen : xs.length = ys.length
  case neg =>
    have i1 : ¬ (xs.length : Int) = (ys.length : Int) := by omega
    have HN : Hid (xs ≠ ys) := Lib.hid fun e => hlen (by rw [e])
    clear hlen
    go_enter Tryz.func74, Tryz.ntmps74
    go_wp2_with fail
    go_ret
    exact RetEq.no HN.out (Below.refl _ _)
  have i1 : (xs.length : Int) = (ys.length : Int) := by omega
  have HLEN := Lib.hid hlen
  clear hlen
  go_enter Tryz.func74, Tryz.ntmps74
  go_wp2_with fail
  clear i1
  go_loopg [13] xs.length (fun g i wr => ∃ k : Nat, k ≤ xs.length ∧ g = xs.length - k ∧ i = .int .i64 k ∧ (∃ n, wr = w.drewN n) ∧ xs.take k = ys.take k)
  case atStart => exact ⟨0, Nat.zero_le _, rfl, rfl, ⟨0, rfl⟩, rfl⟩
  case round =>
    obtain ⟨k, hk, rfl, rfl, ⟨nd, hwr⟩, htk⟩ := hrel
    have HTK := Lib.hid htk
    have HB : Hid (Below w.heap.size w wr) := Lib.hid (by rw [hwr]; exact below_drewN (Below.refl _ _) _)
    have HCE : Hid (∀ p, wr.cell? p = w.cell? p) := Lib.hid fun p => by rw [hwr]; rfl
    have HWR : Hid (∀ n, ∃ m, wr.drewN n = w.drewN m) := Lib.hid fun n => ⟨nd + n, by rw [hwr]; exact (World.drewN_drewN _ _ _)⟩
    clear htk hwr
    by_cases hlt : k < xs.length
    · have hl2 := HLEN.out
      obtain ⟨e, he⟩ : ∃ e, xs[k]? = some e := ⟨_, List.getElem?_eq_getElem hlt⟩
      obtain ⟨f, hf⟩ : ∃ f, ys[k]? = some f := ⟨_, List.getElem?_eq_getElem (by omega)⟩
      obtain ⟨b, off, rfl, hb, hcell⟩ := RdX.four HX.out (by omega)
      obtain ⟨b', off', rfl, hb', hcell'⟩ := RdX.four HY.out (by omega)
      obtain ⟨g0, g1, g2, g3⟩ := hcell k e he
      obtain ⟨h0, h1, h2, h3⟩ := hcell' k f hf
      have f0 := (HCE.out ⟨b, off + k * 4, none⟩).trans g0
      have f1 := (HCE.out ⟨b, off + k * 4 + 1, none⟩).trans g1
      have f2 := (HCE.out ⟨b, off + k * 4 + 2, none⟩).trans g2
      have f3 := (HCE.out ⟨b, off + k * 4 + 3, none⟩).trans g3
      have e0 := (HCE.out ⟨b', off' + k * 4, none⟩).trans h0
      have e1 := (HCE.out ⟨b', off' + k * 4 + 1, none⟩).trans h1
      have e2 := (HCE.out ⟨b', off' + k * 4 + 2, none⟩).trans h2
      have e3 := (HCE.out ⟨b', off' + k * 4 + 3, none⟩).trans h3
      have HE := Lib.hid he
      have HF := Lib.hid hf
      have hkI : (0 : Int) ≤ (k : Int) := by omega
      have hkJ : (k : Int) < (xs.length : Int) := by omega
      have hkK : (k : Int) < (ys.length : Int) := by omega
      have hkL : k < ys.length := by omega
      clear he hf hcell hcell' g0 g1 g2 g3 h0 h1 h2 h3 hl2
      by_cases hef : e = f
      · subst hef
        have HT2 := Lib.hid (row_take HE.out HF.out HTK.out)
        go_wp2_with fail
        go_quiet (fail)
        go_wp2_with fail
        go_roundg (xs.length - (k + 1))
        case measure => omega
        case rel => exact ⟨k + 1, by omega, rfl, by go_num, HWR.out _, HT2.out⟩
      · have HNE := Lib.hid (row_ne HE.out HF.out hef)
        rcases Sg.val_ne hef with q0 | ⟨q0, q1⟩ | ⟨q0, q1, q2⟩ | ⟨q0, q1, q2, q3⟩
        · have r0 : (e.kind == f.kind) = false := by rw [beq_eq_false_iff_ne]; exact q0
          clear hef q0
          go_wp2_with fail
          go_quiet (fail)
          go_wp2_with fail
          go_ret
          exact RetEq.no HNE.out (below_drewN HB.out _)
        · have r1 : (e.text.toList == f.text.toList) = false := Lx.toList_ne q1
          clear hef q1
          go_wp2_with fail
          go_quiet (fail)
          go_wp2_with fail
          go_ret
          exact RetEq.no HNE.out (below_drewN HB.out _)
        · have r2 : (e.lo == f.lo) = false := by rw [beq_eq_false_iff_ne]; exact q2
          clear hef q2
          go_wp2_with fail
          go_quiet (fail)
          go_wp2_with fail
          go_ret
          exact RetEq.no HNE.out (below_drewN HB.out _)
        · have r3 : (e.hi == f.hi) = false := by rw [beq_eq_false_iff_ne]; exact q3
          clear hef q3
          go_wp2_with fail
          go_quiet (fail)
          go_wp2_with fail
          go_ret
          exact RetEq.no HNE.out (below_drewN HB.out _)
    · have hl2 : ¬ (k : Int) < (ys.length : Int) := by have := HLEN.out; omega
      have HEQ := Lib.hid (row_all HTK.out (by omega) (by have := HLEN.out; omega))
      go_wp2_with fail
      go_ret
      exact RetEq.yes HEQ.out HB.out
theorem Sg.sign_ne {s t : Sg.Sign} (h : ¬ s = t) : s.code ≠ t.code ∨ (s.code = t.code ∧ s.wide ≠ t.wide) ∨ (s.code = t.code ∧ s.wide = t.wide ∧ s.high ≠ t.high) ∨ (s.code = t.code ∧ s.wide = t.wide ∧ s.high = t.high ∧ s.even ≠ t.even) ∨ (s.code = t.code ∧ s.wide = t.wide ∧ s.high = t.high ∧ s.even = t.even ∧ s.values ≠ t.values) := by
  obtain ⟨a0, a1, a2, a3, a4⟩ := s
  obtain ⟨b0, b1, b2, b3, b4⟩ := t
  by_cases q0 : a0 = b0
  · by_cases q1 : a1 = b1
    · by_cases q2 : a2 = b2
      · by_cases q3 : a3 = b3
        · by_cases q4 : a4 = b4
          · exfalso; apply h; subst q0 q1 q2 q3 q4; rfl
          · exact .inr (.inr (.inr (.inr ⟨q0, q1, q2, q3, q4⟩)))
        · exact .inr (.inr (.inr (.inl ⟨q0, q1, q2, q3⟩)))
      · exact .inr (.inr (.inl ⟨q0, q1, q2⟩))
    · exact .inr (.inl ⟨q0, q1⟩)
  · exact .inl q0
set_option maxRecDepth 100000 in
set_option maxHeartbeats 8000000 in
theorem gSame1_any {B B' : Nat} (s t : Sg.Sign) (us ut : Value) (w : World) (hs : RdS w B 4 encValue us s.values) (ht : RdS w B' 4 encValue ut t.values) (hB : B ≤ w.heap.size) (hB' : B' ≤ w.heap.size) :
    Calls Tryz.prog 73 #[.agg #[.string s.code, .int .i64 s.wide, .int .i64 s.high, .bool s.even, us], .agg #[.string t.code, .int .i64 t.wide, .int .i64 t.high, .bool t.even, ut]] w (RetEq (s = t) w) := by
  obtain ⟨As, cs, rfl, -, -⟩ := rds_form hs
  obtain ⟨At, ct, rfl, -, -⟩ := rds_form ht
  obtain ⟨sc, sw, sh, se, sv⟩ := s
  obtain ⟨tc, tw, th, te, tv⟩ := t
  dsimp only at hs ht ⊢
  obtain ⟨W1, hW1⟩ : ∃ W1, W1 = (w.alloc (.cells #[.string sc, .int .i64 sw, .int .i64 sh, .bool se, .slice As sv.length cs] 67)).alloc (.cells #[.string tc, .int .i64 tw, .int .i64 th, .bool te, .slice At tv.length ct] 67) := ⟨_, rfl⟩
  have hb1 : Below w.heap.size w W1 := by rw [hW1]; exact ((Below.refl _ _).alloc (Nat.le_refl _) _).alloc (by simp) _
  have hX : W1.heap[w.heap.size]? = some (.cells #[.string sc, .int .i64 sw, .int .i64 sh, .bool se, .slice As sv.length cs] 67 (0, 0)) := by rw [hW1]; exact start_fst w _ _
  have hY : W1.heap[w.heap.size + 1]? = some (.cells #[.string tc, .int .i64 tw, .int .i64 th, .bool te, .slice At tv.length ct] 67 (0, 0)) := by rw [hW1]; exact start_res' w _ _
  have x0 : W1.cell? ⟨w.heap.size, 0, none⟩ = some (.string sc) := by simp [World.cell?, hX]
  have x1 : W1.cell? ⟨w.heap.size, 1, none⟩ = some (.int .i64 sw) := by simp [World.cell?, hX]
  have x2 : W1.cell? ⟨w.heap.size, 2, none⟩ = some (.int .i64 sh) := by simp [World.cell?, hX]
  have x3 : W1.cell? ⟨w.heap.size, 3, none⟩ = some (.bool se) := by simp [World.cell?, hX]
  have x4 : W1.cell? ⟨w.heap.size, 4, none⟩ = some (.slice As sv.length cs) := by simp [World.cell?, hX]
  have y0 : W1.cell? ⟨w.heap.size + 1, 0, none⟩ = some (.string tc) := by simp [World.cell?, hY]
  have y1 : W1.cell? ⟨w.heap.size + 1, 1, none⟩ = some (.int .i64 tw) := by simp [World.cell?, hY]
  have y2 : W1.cell? ⟨w.heap.size + 1, 2, none⟩ = some (.int .i64 th) := by simp [World.cell?, hY]
  have y3 : W1.cell? ⟨w.heap.size + 1, 3, none⟩ = some (.bool te) := by simp [World.cell?, hY]
  have y4 : W1.cell? ⟨w.heap.size + 1, 4, none⟩ = some (.slice At tv.length ct) := by simp [World.cell?, hY]
  have HB1 := Lib.hid hb1
  have HW1 := Lib.hid hW1
  have HEV := Lib.hid (eqValue_any _ _ sv tv W1 (hs.below (hb1.mono hB)) (ht.below (hb1.mono hB')))
  clear hW1 hb1 hX hY hs ht hB hB'
  by_cases q : sc = tc
  case neg =>
    have r0 : (sc.toList == tc.toList) = false := Lx.toList_ne q
    have HN : Hid (¬ (⟨sc, sw, sh, se, sv⟩ : Sg.Sign) = ⟨tc, tw, th, te, tv⟩) := Lib.hid fun e => q (by injection e)
    clear q
    go_enter Tryz.func73, Tryz.ntmps73
    go_upto_region 1 with fail
    rw [← HW1.out]
    go_wp2_with fail
    go_ret
    exact RetEq.no HN.out HB1.out
  subst q
  by_cases q : sw = tw
  case neg =>
    have r0 : (sw == tw) = false := by rw [beq_eq_false_iff_ne]; exact q
    have HN : Hid (¬ (⟨sc, sw, sh, se, sv⟩ : Sg.Sign) = ⟨sc, tw, th, te, tv⟩) := Lib.hid fun e => q (by injection e)
    clear q
    go_enter Tryz.func73, Tryz.ntmps73
    go_upto_region 1 with fail
    rw [← HW1.out]
    go_wp2_with fail
    go_ret
    exact RetEq.no HN.out HB1.out
  subst q
  by_cases q : sh = th
  case neg =>
    have r0 : (sh == th) = false := by rw [beq_eq_false_iff_ne]; exact q
    have HN : Hid (¬ (⟨sc, sw, sh, se, sv⟩ : Sg.Sign) = ⟨sc, sw, th, te, tv⟩) := Lib.hid fun e => q (by injection e)
    clear q
    go_enter Tryz.func73, Tryz.ntmps73
    go_upto_region 1 with fail
    rw [← HW1.out]
    go_wp2_with fail
    go_ret
    exact RetEq.no HN.out HB1.out
  subst q
  by_cases q : se = te
  case neg =>
    have r0 : (se == te) = false := by rw [beq_eq_false_iff_ne]; exact q
    have HN : Hid (¬ (⟨sc, sw, sh, se, sv⟩ : Sg.Sign) = ⟨sc, sw, sh, te, tv⟩) := Lib.hid fun e => q (by injection e)
    clear q
    go_enter Tryz.func73, Tryz.ntmps73
    go_upto_region 1 with fail
    rw [← HW1.out]
    go_wp2_with fail
    go_ret
    exact RetEq.no HN.out HB1.out
  subst q
  go_enter Tryz.func73, Tryz.ntmps73
  go_upto_region 1 with fail
  rw [← HW1.out]
  go_wp2_with fail
  refine HEV.out.mono ?_
  rintro e w2 ⟨q, rfl, hq, hb2⟩
  have HB2 := Lib.hid (HB1.out.trans (hb2.mono HB1.out.size))
  have HQ := Lib.hid hq
  clear hb2 hq
  go_wp2_with fail
  go_ret
  refine ⟨q, rfl, ?_, HB2.out⟩
  refine HQ.out.trans ⟨fun e => by rw [e], fun e => by injection e⟩
theorem RdSL.sl {w : World} {p : Int} {u : Value} {l : Sg.SList} (h : RdSL w w.heap.size (.agg #[.int .i64 p, u]) l) : RdG KSign w (· < w.heap.size) u l.signs := by
  obtain ⟨⟨u', e, h⟩, _⟩ := h
  simp at e
  obtain ⟨-, rfl⟩ := e
  exact h
set_option maxRecDepth 100000 in
set_option maxHeartbeats 8000000 in
theorem gEqualFunc_any (va vb : Value) (a b : List Sg.Sign) (w : World) (hg : RdG KSign w (· < w.heap.size) va a) (hg' : RdG KSign w (· < w.heap.size) vb b) : Calls Tryz.prog 72 #[va, vb, .func (.func 73) #[] #[]] w (RetEq (a = b) w) := by
  have hn0 := hg.len
  have hn0' := hg'.len
  obtain ⟨A0, c0, rfl⟩ := hg.form
  obtain ⟨A1, c1, rfl⟩ := hg'.form
  have HG0 := Lib.hid hg
  have HG1 := Lib.hid hg'
  clear hg hg'
  by_cases hlen : a.length = b.length
  case neg =>
    have i2 : ((a.length : Int) == (b.length : Int)) = false := by rw [beq_eq_false_iff_ne]; omega
    have HN : Hid (¬ a = b) := Lib.hid fun e => hlen (by rw [e])
    clear hlen
    go_enter Tryz.func72, Tryz.ntmps72
    go_wp2_with fail
    go_ret
    exact RetEq.no HN.out (Below.refl _ _)
  have HLEN := Lib.hid hlen
  have i2 : ((a.length : Int) == (b.length : Int)) = true := by rw [beq_iff_eq]; omega
  have i3 : ((a.length : Int) != (b.length : Int)) = false := by unfold bne; rw [i2]; rfl
  clear hlen
  go_enter Tryz.func72, Tryz.ntmps72
  go_wp2_with fail
  clear i2 i3
  go_loopg [17] a.length (fun g i wr => ∃ k : Nat, k ≤ a.length ∧ g = a.length - k ∧ i = .int .i64 k ∧ Below w.heap.size w wr ∧ a.take k = b.take k)
  case atStart => exact ⟨0, Nat.zero_le _, rfl, rfl, Below.refl _ _, rfl⟩
  case round =>
    obtain ⟨k, hk, rfl, rfl, hbel, htk⟩ := hrel
    have HTK := Lib.hid htk
    have HBK := Lib.hid hbel
    have hszr := hbel.size
    clear htk hbel
    by_cases hlt : k < a.length
    · have hl2 := HLEN.out
      obtain ⟨s, hs⟩ : ∃ s, a[k]? = some s := ⟨_, List.getElem?_eq_getElem hlt⟩
      obtain ⟨t, ht⟩ : ∃ t, b[k]? = some t := ⟨_, List.getElem?_eq_getElem (by omega)⟩
      obtain ⟨ba, oa, rfl, hba, hcell⟩ := HG0.out.five (by omega)
      obtain ⟨bb, ob, rfl, hbb, hcell'⟩ := HG1.out.five (by omega)
      obtain ⟨us, hrs, g0, g1, g2, g3, g4⟩ := hcell k _ hs
      obtain ⟨ut, hrt, h0, h1, h2, h3, h4⟩ := hcell' k _ ht
      have HRS := Lib.hid hrs.rds
      have HRT := Lib.hid hrt.rds
      obtain ⟨As, cs, rfl, -, -⟩ := rds_form hrs.rds
      obtain ⟨At, ct, rfl, -, -⟩ := rds_form hrt.rds
      have f0 := (HBK.out.cell (p := ⟨ba, oa + k * 5, none⟩) hba).trans g0
      have f1 := (HBK.out.cell (p := ⟨ba, oa + k * 5 + 1, none⟩) hba).trans g1
      have f2 := (HBK.out.cell (p := ⟨ba, oa + k * 5 + 2, none⟩) hba).trans g2
      have f3 := (HBK.out.cell (p := ⟨ba, oa + k * 5 + 3, none⟩) hba).trans g3
      have f4 := (HBK.out.cell (p := ⟨ba, oa + k * 5 + 4, none⟩) hba).trans g4
      obtain ⟨wS, hwS⟩ : ∃ wS, wS = wr.alloc (.cells #[.string s.code, .int .i64 s.wide, .int .i64 s.high, .bool s.even, .slice As s.values.length cs] 67) := ⟨_, rfl⟩
      have hbS : Below wr.heap.size wr wS := by rw [hwS]; exact (Below.refl _ _).alloc (Nat.le_refl _) _
      have hsb : wS.heap[wr.heap.size]? = some (.cells #[.string s.code, .int .i64 s.wide, .int .i64 s.high, .bool s.even, .slice As s.values.length cs] 67 (0, 0)) := by rw [hwS]; exact heap_alloc_new _ _
      have hszS : wr.heap.size < wS.heap.size := by rw [hwS]; simp
      have HBS : Hid (Below w.heap.size w wS) := Lib.hid (HBK.out.trans (hbS.mono hszr))
      have e0 := (HBS.out.cell (p := ⟨bb, ob + k * 5, none⟩) hbb).trans h0
      have e1 := (HBS.out.cell (p := ⟨bb, ob + k * 5 + 1, none⟩) hbb).trans h1
      have e2 := (HBS.out.cell (p := ⟨bb, ob + k * 5 + 2, none⟩) hbb).trans h2
      have e3 := (HBS.out.cell (p := ⟨bb, ob + k * 5 + 3, none⟩) hbb).trans h3
      have e4 := (HBS.out.cell (p := ⟨bb, ob + k * 5 + 4, none⟩) hbb).trans h4
      obtain ⟨wT, hwT⟩ : ∃ wT, wT = wS.alloc (.cells #[.string t.code, .int .i64 t.wide, .int .i64 t.high, .bool t.even, .slice At t.values.length ct] 67) := ⟨_, rfl⟩
      have hbT : Below wS.heap.size wS wT := by rw [hwT]; exact (Below.refl _ _).alloc (Nat.le_refl _) _
      have htb : wT.heap[wS.heap.size]? = some (.cells #[.string t.code, .int .i64 t.wide, .int .i64 t.high, .bool t.even, .slice At t.values.length ct] 67 (0, 0)) := by rw [hwT]; exact heap_alloc_new _ _
      have hsb' := (hbT.block wr.heap.size hszS).trans hsb
      have HBT : Hid (Below w.heap.size w wT) := Lib.hid (HBS.out.trans (hbT.mono (by omega)))
      have s0 : wT.cell? ⟨wr.heap.size, 0, none⟩ = some (.string s.code) := by simp [World.cell?, hsb']
      have s1 : wT.cell? ⟨wr.heap.size, 1, none⟩ = some (.int .i64 s.wide) := by simp [World.cell?, hsb']
      have s2 : wT.cell? ⟨wr.heap.size, 2, none⟩ = some (.int .i64 s.high) := by simp [World.cell?, hsb']
      have s3 : wT.cell? ⟨wr.heap.size, 3, none⟩ = some (.bool s.even) := by simp [World.cell?, hsb']
      have s4 : wT.cell? ⟨wr.heap.size, 4, none⟩ = some (.slice As s.values.length cs) := by simp [World.cell?, hsb']
      have t0 : wT.cell? ⟨wS.heap.size, 0, none⟩ = some (.string t.code) := by simp [World.cell?, htb]
      have t1 : wT.cell? ⟨wS.heap.size, 1, none⟩ = some (.int .i64 t.wide) := by simp [World.cell?, htb]
      have t2 : wT.cell? ⟨wS.heap.size, 2, none⟩ = some (.int .i64 t.high) := by simp [World.cell?, htb]
      have t3 : wT.cell? ⟨wS.heap.size, 3, none⟩ = some (.bool t.even) := by simp [World.cell?, htb]
      have t4 : wT.cell? ⟨wS.heap.size, 4, none⟩ = some (.slice At t.values.length ct) := by simp [World.cell?, htb]
      have HC := Lib.hid (gSame1_any s t _ _ wT (HRS.out.below HBT.out) (HRT.out.below HBT.out) HBT.out.size HBT.out.size)
      have HS := Lib.hid hs
      have HT := Lib.hid ht
      have HWS := Lib.hid hwS
      have HWT := Lib.hid hwT
      have hkI : (0 : Int) ≤ (k : Int) := by omega
      have hkJ : (k : Int) < (a.length : Int) := by omega
      have hkK : (k : Int) < (b.length : Int) := by omega
      have hkL : k < b.length := by omega
      clear hs ht hcell hcell' g0 g1 g2 g3 g4 h0 h1 h2 h3 h4 hl2 hrs hrt hwS hbS hsb hwT hbT htb hsb'
      go_upto_region 6 with fail
      rw [← HWS.out]
      clear f0 f1 f2 f3 f4
      go_upto_region 7 with fail
      rw [← HWT.out]
      clear e0 e1 e2 e3 e4
      go_wp2_with fail
      refine HC.out.mono ?_
      rintro e w3 ⟨q, rfl, hq, hb3⟩
      have HB3 : Hid (Below w.heap.size w w3) := Lib.hid (HBT.out.trans (hb3.mono HBT.out.size))
      have HQ := Lib.hid hq
      clear hb3 hq s0 s1 s2 s3 s4 t0 t1 t2 t3 t4
      cases q
      · have HN : Hid (¬ a = b) := Lib.hid (row_ne HS.out HT.out (fun e2 => by have := HQ.out.2 e2; cases this))
        go_wp2_with fail
        go_ret
        exact RetEq.no HN.out HB3.out
      · have hst := HQ.out.1 rfl
        have HT2 : Hid (a.take (k + 1) = b.take (k + 1)) := Lib.hid (row_take HS.out (by rw [hst]; exact HT.out) HTK.out)
        clear hst
        go_wp2_with fail
        go_roundg (a.length - (k + 1))
        case measure => omega
        case rel => exact ⟨k + 1, by omega, rfl, by go_num, HB3.out, HT2.out⟩
    · have hl2 : ¬ (k : Int) < (b.length : Int) := by have := HLEN.out; omega
      have HEQ : Hid (a = b) := Lib.hid (row_all HTK.out (by omega) (by have := HLEN.out; omega))
      go_wp2_with fail
      go_ret
      exact RetEq.yes HEQ.out HBK.out
set_option maxRecDepth 100000 in
set_option maxHeartbeats 8000000 in
theorem gSame_any (v v' : Value) (a b : Sg.SList) (w : World) (ha : RdSL w w.heap.size v a) (hb : RdSL w w.heap.size v' b) : Calls Tryz.prog 31 #[v, v'] w (RetEq (a.periods = b.periods ∧ a.signs = b.signs) w) := by
  have HA := Lib.hid ha
  have HBB := Lib.hid hb
  obtain ⟨⟨u, rfl, hg⟩, hf⟩ := ha
  obtain ⟨⟨u', rfl, hg'⟩, hf'⟩ := hb
  obtain ⟨A0, c0, rfl⟩ := hg.form
  obtain ⟨A1, c1, rfl⟩ := hg'.form
  obtain ⟨W1, hW1⟩ : ∃ W1, W1 = (w.alloc (.cells #[.int .i64 a.periods, .slice A0 a.signs.length c0] 24)).alloc (.cells #[.int .i64 b.periods, .slice A1 b.signs.length c1] 24) := ⟨_, rfl⟩
  have hb1 : Below w.heap.size w W1 := by rw [hW1]; exact ((Below.refl _ _).alloc (Nat.le_refl _) _).alloc (by simp) _
  have hX : W1.heap[w.heap.size]? = some (.cells #[.int .i64 a.periods, .slice A0 a.signs.length c0] 24 (0, 0)) := by rw [hW1]; exact start_fst w _ _
  have hY : W1.heap[w.heap.size + 1]? = some (.cells #[.int .i64 b.periods, .slice A1 b.signs.length c1] 24 (0, 0)) := by rw [hW1]; exact start_res' w _ _
  have x0 : W1.cell? ⟨w.heap.size, 0, none⟩ = some (.int .i64 a.periods) := by simp [World.cell?, hX]
  have x1 : W1.cell? ⟨w.heap.size, 1, none⟩ = some (.slice A0 a.signs.length c0) := by simp [World.cell?, hX]
  have y0 : W1.cell? ⟨w.heap.size + 1, 0, none⟩ = some (.int .i64 b.periods) := by simp [World.cell?, hY]
  have y1 : W1.cell? ⟨w.heap.size + 1, 1, none⟩ = some (.slice A1 b.signs.length c1) := by simp [World.cell?, hY]
  have HB1 := Lib.hid hb1
  have HW1 := Lib.hid hW1
  have HEF := Lib.hid (gEqualFunc_any _ _ a.signs b.signs W1 (RdSL.sl (HA.out.on hb1)) (RdSL.sl (HBB.out.on hb1)))
  clear hg hg' hf hf' hW1 hb1 hX hY
  by_cases hp : a.periods = b.periods
  case neg =>
    have i1 : (a.periods == b.periods) = false := by rw [beq_eq_false_iff_ne]; exact hp
    have HN : Hid (¬ (a.periods = b.periods ∧ a.signs = b.signs)) := Lib.hid fun e => hp e.1
    go_enter Tryz.func31, Tryz.ntmps31
    go_upto_region 1 with fail
    rw [← HW1.out]
    go_wp2_with fail
    go_ret
    exact RetEq.no HN.out HB1.out
  have HP := Lib.hid hp
  have hpB : (a.periods == b.periods) = true := by rw [beq_iff_eq]; exact hp
  clear hp
  go_enter Tryz.func31, Tryz.ntmps31
  go_upto_region 1 with fail
  rw [← HW1.out]
  go_wp2_with fail
  refine HEF.out.mono ?_
  rintro e w2 ⟨q, rfl, hq, hb2⟩
  have HB2 := Lib.hid (HB1.out.trans (hb2.mono HB1.out.size))
  have HQ := Lib.hid hq
  clear hb2 hq
  go_wp2_with fail
  go_ret
  exact ⟨q, rfl, HQ.out.trans ⟨fun e => ⟨HP.out, e⟩, fun e => e.2⟩, HB2.out⟩
end Go.Proofs.YtkmimjngmfdpmaaGreatDoor
