/- ostraconref01.SameValues, Same. -/
import Derived.Test.YtkmimjngmfdpmaaGreatDoorMpSgCopy
import Derived.Test.YtkmimjngmfdpmaaGreatDoorMpEqual
import Derived.Test.YtkmimjngmfdpmaaGreatDoorMpSgTidyPlain
namespace Go.Proofs.YtkmimjngmfdpmaaGreatDoor
open Go Go.RowKit

theorem Sg.val_ne {e f : Sg.Value} (h : e ≠ f) : e.kind ≠ f.kind ∨ (e.kind = f.kind ∧ e.text ≠ f.text) ∨ (e.kind = f.kind ∧ e.text = f.text ∧ e.lo ≠ f.lo) ∨ (e.kind = f.kind ∧ e.text = f.text ∧ e.lo = f.lo ∧ e.hi ≠ f.hi) := by
  by_cases q0 : e.kind = f.kind
  · by_cases q1 : e.text = f.text
    · by_cases q2 : e.lo = f.lo
      · by_cases q3 : e.hi = f.hi
        · exfalso; apply h; cases e; cases f; simp_all
        · exact .inr (.inr (.inr ⟨q0, q1, q2, q3⟩))
      · exact .inr (.inr (.inl ⟨q0, q1, q2⟩))
    · exact .inr (.inl ⟨q0, q1⟩)
  · exact .inl q0
set_option maxRecDepth 100000 in
set_option maxHeartbeats 4000000 in
theorem r1SameValues_any {B B' : Nat} (v v' : Value) (xs ys : List Sg.Value) (w : World) (hx : RdS w B 4 encValue v xs) (hy : RdS w B' 4 encValue v' ys) : Calls Tryz.prog 36 #[v, v'] w (RetEq (xs = ys) w) := by
  obtain ⟨A, c, rfl, hlc, hc63⟩ := rds_form hx
  obtain ⟨A', c', rfl, hlc', hc63'⟩ := rds_form hy
  have HX := Lib.hid hx
  have HY := Lib.hid hy
  clear hx hy
  by_cases hlen : xs.length = ys.length
  case neg =>
    have i1 : ¬ (xs.length : Int) = (ys.length : Int) := by omega
    have HN : Hid (xs ≠ ys) := Lib.hid fun e => hlen (by rw [e])
    clear hlen
    go_enter Tryz.func36, Tryz.ntmps36
    go_wp2_with fail
    go_ret
    exact RetEq.no HN.out (Below.refl _ _)
  have i1 : (xs.length : Int) = (ys.length : Int) := by omega
  have HLEN := Lib.hid hlen
  clear hlen
  go_enter Tryz.func36, Tryz.ntmps36
  go_wp2_with fail
  clear i1
  go_loopg [5] xs.length (fun g i wr => ∃ k : Nat, k ≤ xs.length ∧ g = xs.length - k ∧ i = .int .i64 k ∧ (∃ n, wr = w.drewN n) ∧ xs.take k = ys.take k)
  case atStart => exact ⟨0, Nat.zero_le _, rfl, rfl, ⟨0, rfl⟩, rfl⟩
  case round =>
    obtain ⟨k, hk, rfl, rfl, ⟨nd, hwr⟩, htk⟩ := hrel
    have HTK := Lib.hid htk
    have HB : Hid (Below w.heap.size w wr) := Lib.hid (by rw [hwr]; exact below_drewN (Below.refl _ _) _)
    have HCE : Hid (∀ p, wr.cell? p = w.cell? p) := Lib.hid fun p => by rw [hwr]; rfl
    have HWR : Hid (∀ n, ∃ m, wr.drewN n = w.drewN m) := Lib.hid fun n => ⟨nd + n, by rw [hwr]; exact (World.drewN_drewN _ _ _)⟩
    clear htk hwr
    by_cases hlt : k < xs.length
    · have hl2 := HLEN.out
      obtain ⟨e, he⟩ : ∃ e, xs[k]? = some e := ⟨_, List.getElem?_eq_getElem hlt⟩
      obtain ⟨f, hf⟩ : ∃ f, ys[k]? = some f := ⟨_, List.getElem?_eq_getElem (by omega)⟩
      obtain ⟨b, off, rfl, hb, hcell⟩ := RdX.four HX.out (by omega)
      obtain ⟨b', off', rfl, hb', hcell'⟩ := RdX.four HY.out (by omega)
      obtain ⟨g0, g1, g2, g3⟩ := hcell k e he
      obtain ⟨h0, h1, h2, h3⟩ := hcell' k f hf
      have f0 := (HCE.out ⟨b, off + k * 4, none⟩).trans g0
      have f1 := (HCE.out ⟨b, off + k * 4 + 1, none⟩).trans g1
      have f2 := (HCE.out ⟨b, off + k * 4 + 2, none⟩).trans g2
      have f3 := (HCE.out ⟨b, off + k * 4 + 3, none⟩).trans g3
      have e0 := (HCE.out ⟨b', off' + k * 4, none⟩).trans h0
      have e1 := (HCE.out ⟨b', off' + k * 4 + 1, none⟩).trans h1
      have e2 := (HCE.out ⟨b', off' + k * 4 + 2, none⟩).trans h2
      have e3 := (HCE.out ⟨b', off' + k * 4 + 3, none⟩).trans h3
      have HE := Lib.hid he
      have HF := Lib.hid hf
      have hkI : (0 : Int) ≤ (k : Int) := by omega
      have hkJ : (k : Int) < (xs.length : Int) := by omega
      have hkK : (k : Int) < (ys.length : Int) := by omega
      have hkL : k < ys.length := by omega
      clear he hf hcell hcell' g0 g1 g2 g3 h0 h1 h2 h3 hl2
      by_cases hef : e = f
      · subst hef
        have HT2 := Lib.hid (row_take HE.out HF.out HTK.out)
        go_wp2_with fail
        go_quiet (fail)
        go_wp2_with fail
        go_roundg (xs.length - (k + 1))
        case measure => omega
        case rel => exact ⟨k + 1, by omega, rfl, by go_num, HWR.out _, HT2.out⟩
      · have HNE := Lib.hid (row_ne HE.out HF.out hef)
        rcases Sg.val_ne hef with q0 | ⟨q0, q1⟩ | ⟨q0, q1, q2⟩ | ⟨q0, q1, q2, q3⟩
        · have r0 : (e.kind == f.kind) = false := by rw [beq_eq_false_iff_ne]; exact q0
          clear hef q0
          go_wp2_with fail
          go_quiet (fail)
          go_wp2_with fail
          go_ret
          exact RetEq.no HNE.out (below_drewN HB.out _)
        · have r1 : (e.text.toList == f.text.toList) = false := Lx.toList_ne q1
          clear hef q1
          go_wp2_with fail
          go_quiet (fail)
          go_wp2_with fail
          go_ret
          exact RetEq.no HNE.out (below_drewN HB.out _)
        · have r2 : (e.lo == f.lo) = false := by rw [beq_eq_false_iff_ne]; exact q2
          clear hef q2
          go_wp2_with fail
          go_quiet (fail)
          go_wp2_with fail
          go_ret
          exact RetEq.no HNE.out (below_drewN HB.out _)
        · have r3 : (e.hi == f.hi) = false := by rw [beq_eq_false_iff_ne]; exact q3
          clear hef q3
          go_wp2_with fail
          go_quiet (fail)
          go_wp2_with fail
          go_ret
          exact RetEq.no HNE.out (below_drewN HB.out _)
    · have HEQ := Lib.hid (row_all HTK.out (by omega) (by have := HLEN.out; omega))
      go_wp2_with fail
      go_ret
      exact RetEq.yes HEQ.out HB.out
set_option maxRecDepth 100000 in
set_option maxHeartbeats 8000000 in
theorem r1Same_any (v v' : Value) (a b : Sg.SList) (w : World) (ha : RdSL w w.heap.size v a) (hb : RdSL w w.heap.size v' b) : Calls Tryz.prog 23 #[v, v'] w (RetEq (a.periods = b.periods ∧ a.signs = b.signs) w) := by
  obtain ⟨⟨u, rfl, hg⟩, hf⟩ := ha
  obtain ⟨⟨u', rfl, hg'⟩, hf'⟩ := hb
  have hn0 := hg.len
  have hn0' := hg'.len
  obtain ⟨A0, c0, rfl⟩ := hg.form
  obtain ⟨A1, c1, rfl⟩ := hg'.form
  have HG0 := Lib.hid hg
  have HG1 := Lib.hid hg'
  obtain ⟨W1, hW1⟩ : ∃ W1, W1 = (w.alloc (.cells #[.int .i64 a.periods, .slice A0 a.signs.length c0] 24)).alloc (.cells #[.int .i64 b.periods, .slice A1 b.signs.length c1] 24) := ⟨_, rfl⟩
  have hb1 : Below w.heap.size w W1 := by rw [hW1]; exact ((Below.refl _ _).alloc (Nat.le_refl _) _).alloc (by simp) _
  have hX : W1.heap[w.heap.size]? = some (.cells #[.int .i64 a.periods, .slice A0 a.signs.length c0] 24 (0, 0)) := by rw [hW1]; exact start_fst w _ _
  have hY : W1.heap[w.heap.size + 1]? = some (.cells #[.int .i64 b.periods, .slice A1 b.signs.length c1] 24 (0, 0)) := by rw [hW1]; exact start_res' w _ _
  have hs1 : w.heap.size + 1 < W1.heap.size := (Array.getElem?_eq_some_iff.1 hY).1
  have x0 : W1.cell? ⟨w.heap.size, 0, none⟩ = some (.int .i64 a.periods) := by simp [World.cell?, hX]
  have x1 : W1.cell? ⟨w.heap.size, 1, none⟩ = some (.slice A0 a.signs.length c0) := by simp [World.cell?, hX]
  have y0 : W1.cell? ⟨w.heap.size + 1, 0, none⟩ = some (.int .i64 b.periods) := by simp [World.cell?, hY]
  have y1 : W1.cell? ⟨w.heap.size + 1, 1, none⟩ = some (.slice A1 b.signs.length c1) := by simp [World.cell?, hY]
  have HB1 := Lib.hid hb1
  have HW1 := Lib.hid hW1
  have HX1 := Lib.hid hX
  have HY1 := Lib.hid hY
  clear hg hg' hf hf' hW1 hb1 hX hY
  by_cases hp : a.periods = b.periods
  case neg =>
    have i1 : (a.periods == b.periods) = false := by rw [beq_eq_false_iff_ne]; exact hp
    have HN : Hid (¬ (a.periods = b.periods ∧ a.signs = b.signs)) := Lib.hid fun e => hp e.1
    go_enter Tryz.func23, Tryz.ntmps23
    go_upto_region 1 with fail
    rw [← HW1.out]
    go_wp2_with fail
    go_ret
    exact RetEq.no HN.out HB1.out
  have HP := Lib.hid hp
  have hpB : (a.periods == b.periods) = true := by rw [beq_iff_eq]; exact hp
  clear hp
  by_cases hlen : a.signs.length = b.signs.length
  case neg =>
    have i2 : ((a.signs.length : Int) == (b.signs.length : Int)) = false := by rw [beq_eq_false_iff_ne]; omega
    have HN : Hid (¬ (a.periods = b.periods ∧ a.signs = b.signs)) := Lib.hid fun e => hlen (by rw [e.2])
    clear hlen
    go_enter Tryz.func23, Tryz.ntmps23
    go_upto_region 1 with fail
    rw [← HW1.out]
    go_wp2_with fail
    go_ret
    exact RetEq.no HN.out HB1.out
  have HLEN := Lib.hid hlen
  have i2 : ((a.signs.length : Int) == (b.signs.length : Int)) = true := by rw [beq_iff_eq]; omega
  have i3 : ((a.signs.length : Int) != (b.signs.length : Int)) = false := by unfold bne; rw [i2]; rfl
  clear hlen
  go_enter Tryz.func23, Tryz.ntmps23
  go_upto_region 1 with fail
  rw [← HW1.out]
  go_wp2_with fail
  clear i2 i3 hpB x0 y0 x1 y1
  go_loopg [5] a.signs.length (fun g i wr => ∃ k : Nat, k ≤ a.signs.length ∧ g = a.signs.length - k ∧ i = .int .i64 k ∧ Below W1.heap.size W1 wr ∧ a.signs.take k = b.signs.take k)
  case atStart => exact ⟨0, Nat.zero_le _, rfl, rfl, Below.refl _ _, rfl⟩
  case round =>
    obtain ⟨k, hk, rfl, rfl, hbel, htk⟩ := hrel
    have HTK := Lib.hid htk
    have HBK := Lib.hid hbel
    have HBW := Lib.hid (HB1.out.trans (hbel.mono (by omega)))
    have hxx := (hbel.block w.heap.size (by omega)).trans HX1.out
    have hyy := (hbel.block (w.heap.size + 1) (by omega)).trans HY1.out
    have x1 : wr.cell? ⟨w.heap.size, 1, none⟩ = some (.slice A0 a.signs.length c0) := by simp [World.cell?, hxx]
    have y1 : wr.cell? ⟨w.heap.size + 1, 1, none⟩ = some (.slice A1 b.signs.length c1) := by simp [World.cell?, hyy]
    have hszr := hbel.size
    clear htk hbel hxx hyy
    by_cases hlt : k < a.signs.length
    · have hl2 := HLEN.out
      obtain ⟨s, hs⟩ : ∃ s, a.signs[k]? = some s := ⟨_, List.getElem?_eq_getElem hlt⟩
      obtain ⟨t, ht⟩ : ∃ t, b.signs[k]? = some t := ⟨_, List.getElem?_eq_getElem (by omega)⟩
      obtain ⟨sc, sw, sh, se, sv⟩ := s
      obtain ⟨tc, tw, th, te, tv⟩ := t
      obtain ⟨ba, oa, rfl, hba, hcell⟩ := HG0.out.five (by omega)
      obtain ⟨bb, ob, rfl, hbb, hcell'⟩ := HG1.out.five (by omega)
      obtain ⟨us, hrs, g0, g1, g2, g3, g4⟩ := hcell k _ hs
      obtain ⟨ut, hrt, h0, h1, h2, h3, h4⟩ := hcell' k _ ht
      dsimp only at hrs hrt g0 g1 g2 g3 g4 h0 h1 h2 h3 h4
      obtain ⟨As, cs, rfl, -, -⟩ := rds_form hrs.rds
      obtain ⟨At, ct, rfl, -, -⟩ := rds_form hrt.rds
      have f0 := (HBW.out.cell (p := ⟨ba, oa + k * 5, none⟩) hba).trans g0
      have f1 := (HBW.out.cell (p := ⟨ba, oa + k * 5 + 1, none⟩) hba).trans g1
      have f2 := (HBW.out.cell (p := ⟨ba, oa + k * 5 + 2, none⟩) hba).trans g2
      have f3 := (HBW.out.cell (p := ⟨ba, oa + k * 5 + 3, none⟩) hba).trans g3
      have f4 := (HBW.out.cell (p := ⟨ba, oa + k * 5 + 4, none⟩) hba).trans g4
      have e0 := (HBW.out.cell (p := ⟨bb, ob + k * 5, none⟩) hbb).trans h0
      have e1 := (HBW.out.cell (p := ⟨bb, ob + k * 5 + 1, none⟩) hbb).trans h1
      have e2 := (HBW.out.cell (p := ⟨bb, ob + k * 5 + 2, none⟩) hbb).trans h2
      have e3 := (HBW.out.cell (p := ⟨bb, ob + k * 5 + 3, none⟩) hbb).trans h3
      have e4 := (HBW.out.cell (p := ⟨bb, ob + k * 5 + 4, none⟩) hbb).trans h4
      have HRS := Lib.hid hrs.rds
      have HRT := Lib.hid hrt.rds
      have HS := Lib.hid hs
      have HT := Lib.hid ht
      have hkI : (0 : Int) ≤ (k : Int) := by omega
      have hkJ : (k : Int) < (a.signs.length : Int) := by omega
      have hkK : (k : Int) < (b.signs.length : Int) := by omega
      have hkL : k < b.signs.length := by omega
      clear hs ht hcell hcell' g0 g1 g2 g3 g4 h0 h1 h2 h3 h4 hl2 hrs hrt
      have hq1 : w.heap.size < wr.heap.size := by omega
      have hq2 : w.heap.size + 1 < wr.heap.size := by omega
      have hq3 : ba < wr.heap.size := by omega
      have hq4 : bb < wr.heap.size := by omega
      have hr1 : w.heap.size < wr.heap.size + 1 := by omega
      have hr2 : w.heap.size + 1 < wr.heap.size + 1 := by omega
      have hr3 : ba < wr.heap.size + 1 := by omega
      have hr4 : bb < wr.heap.size + 1 := by omega
      go_upto_region 6 with fail
      go_region
      all_goals clear f0 f1 f2 f3 f4 e0 e1 e2 e3 e4 x1 y1
      all_goals
        by_cases q : sc = tc
        case neg =>
          have r0 : (sc.toList == tc.toList) = false := Lx.toList_ne q
          have HN : Hid (¬ (a.periods = b.periods ∧ a.signs = b.signs)) := Lib.hid fun e => row_ne HS.out HT.out (fun e => q (by injection e)) e.2
          clear q
          go_wp2_with fail
          go_ret
          exact RetEq.no HN.out (by repeat' first | exact HBW.out | apply Below.drew | refine Below.setCell ?_ ?_ _ | refine Below.alloc ?_ ?_ _ | (show w.heap.size ≤ _; omega) | (simp <;> omega))
        subst q
        by_cases q : sw = tw
        case neg =>
          have r0 : (sw == tw) = false := by rw [beq_eq_false_iff_ne]; exact q
          have HN : Hid (¬ (a.periods = b.periods ∧ a.signs = b.signs)) := Lib.hid fun e => row_ne HS.out HT.out (fun e => q (by injection e)) e.2
          skip
          go_wp2_with fail
          go_ret
          exact RetEq.no HN.out (by repeat' first | exact HBW.out | apply Below.drew | refine Below.setCell ?_ ?_ _ | refine Below.alloc ?_ ?_ _ | (show w.heap.size ≤ _; omega) | (simp <;> omega))
        subst q
        by_cases q : sh = th
        case neg =>
          have r0 : (sh == th) = false := by rw [beq_eq_false_iff_ne]; exact q
          have HN : Hid (¬ (a.periods = b.periods ∧ a.signs = b.signs)) := Lib.hid fun e => row_ne HS.out HT.out (fun e => q (by injection e)) e.2
          skip
          go_wp2_with fail
          go_ret
          exact RetEq.no HN.out (by repeat' first | exact HBW.out | apply Below.drew | refine Below.setCell ?_ ?_ _ | refine Below.alloc ?_ ?_ _ | (show w.heap.size ≤ _; omega) | (simp <;> omega))
        subst q
        by_cases q : se = te
        case neg =>
          have r0 : (se == te) = false := by rw [beq_eq_false_iff_ne]; exact q
          have HN : Hid (¬ (a.periods = b.periods ∧ a.signs = b.signs)) := Lib.hid fun e => row_ne HS.out HT.out (fun e => q (by injection e)) e.2
          skip
          go_wp2_with fail
          go_ret
          exact RetEq.no HN.out (by repeat' first | exact HBW.out | apply Below.drew | refine Below.setCell ?_ ?_ _ | refine Below.alloc ?_ ?_ _ | (show w.heap.size ≤ _; omega) | (simp <;> omega))
        subst q
        go_wp2_with fail
        generalize hw2 : World.drew _ = w2
        have HB2 : Hid (Below wr.heap.size wr w2) := Lib.hid (by rw [← hw2]; repeat' first | exact Below.refl _ _ | apply Below.drew | refine Below.setCell ?_ ?_ _ | refine Below.alloc ?_ ?_ _ | (show wr.heap.size ≤ _; omega) | (simp <;> omega))
        clear hw2
        refine (r1SameValues_any _ _ sv tv w2 (HRS.out.below (HBW.out.trans (HB2.out.mono (by omega)))) (HRT.out.below (HBW.out.trans (HB2.out.mono (by omega))))).mono ?_
        rintro e w3 ⟨q, rfl, hq, hb3⟩
        have HB3 : Hid (Below W1.heap.size W1 w3) := Lib.hid (HBK.out.trans ((HB2.out.trans (hb3.mono HB2.out.size)).mono (by omega)))
        have HQ := Lib.hid hq
        clear hb3 hq
        cases q
        · have HN : Hid (¬ (a.periods = b.periods ∧ a.signs = b.signs)) := Lib.hid fun e => row_ne HS.out HT.out (fun e2 => by have := HQ.out.2 (by injection e2); cases this) e.2
          go_wp2_with fail
          go_ret
          exact RetEq.no HN.out (HB1.out.trans (HB3.out.mono (by omega)))
        · have hst := HQ.out.1 rfl
          have HT2 : Hid (a.signs.take (k + 1) = b.signs.take (k + 1)) := Lib.hid (row_take HS.out (by rw [hst]; exact HT.out) HTK.out)
          clear hst
          go_wp2_with fail
          go_roundg (a.signs.length - (k + 1))
          case measure => omega
          case rel => exact ⟨k + 1, by omega, rfl, by go_num, HB3.out, HT2.out⟩
    · have HEQ : Hid (a.periods = b.periods ∧ a.signs = b.signs) := Lib.hid ⟨HP.out, row_all HTK.out (by omega) (by have := HLEN.out; omega)⟩
      go_wp2_with fail
      go_ret
      exact RetEq.yes HEQ.out HBW.out
end Go.Proofs.YtkmimjngmfdpmaaGreatDoor
