/- ostraconref05.Count and Forms. -/
import Derived.Test.YtpmnpnlfgfleeaaDoorMgRAll
import Derived.Test.YtpmnpnlfgfleeaaDoorMgFormsF
import Derived.Test.YtpmnpnlfgfleeaaDoorMgRCheck
namespace Go.Proofs.YtpmnpnlfgfleeaaDoor
open Go Go.RowKit

set_option maxRecDepth 100000 in
set_option maxHeartbeats 4000000 in
theorem rCount_any (v : Value) (x : Lx.Lexicon) (n : Int) (w : World) (hr : RdL w w.heap.size v x) : Calls Tryd.prog 10 #[v, .int .i64 n] w (RetCN (Lx.countR x n) (Lx.entryV x n) w) := by
  have HCK : Hid (∀ (W : World), Below w.heap.size w W → Calls Tryd.prog 19 #[v] W (RetIB (Lx.checkV x) W)) := Lib.hid fun W hW => rCheck_any v x W ((hr.below hW).more hW.size)
  have HR := Lib.hid hr
  obtain ⟨⟨v0, v1, v2, rfl, ⟨A0, c0, rfl, hl0, hm0, -⟩, ⟨A1, c1, rfl, -⟩, ⟨A2, c2, rfl, -⟩⟩, -, -, -⟩ := hr
  have hle : (x.entries.length : Int) ≤ 9223372036854775807 := by omega
  clear hl0 hm0
  generalize hcv : Lx.checkV x = cv at HCK
  have HV := Lib.hid hcv
  clear hcv
  go_enter Tryd.func10, Tryd.ntmps10
  go_wp2_with fail
  refine (HCK.out _ ((Below.refl _ _).alloc (Nat.le_refl _) _)).mono ?_
  rintro e1 w1 ⟨rfl, hb1⟩
  have hX : w1.heap[w.heap.size]? = some (.cells #[.slice A0 x.entries.length c0, .slice A1 x.endings.length c1, .slice A2 x.clitics.length c2] 26 (0, 0)) := (hb1.block _ (by simp)).trans (heap_alloc_new _ _)
  have x0 : w1.cell? ⟨w.heap.size, 0, none⟩ = some (.slice A0 x.entries.length c0) := by simp [World.cell?, hX]
  have x1 : w1.cell? ⟨w.heap.size, 1, none⟩ = some (.slice A1 x.endings.length c1) := by simp [World.cell?, hX]
  have x2 : w1.cell? ⟨w.heap.size, 2, none⟩ = some (.slice A2 x.clitics.length c2) := by simp [World.cell?, hX]
  have HB1 := Lib.hid (((Below.refl w.heap.size w).alloc (Nat.le_refl _) _).trans (hb1.mono (by simp)))
  clear hb1 hX
  by_cases hz : cv = 0
  · have hq : (cv == 0) = true := by simp [hz]
    have hq' : (cv != 0) = false := by simp [hz]
    have HZ := Lib.hid hz
    clear hz
    by_cases hn : 0 ≤ n ∧ n < (x.entries.length : Int)
    · obtain ⟨i, rfl⟩ : ∃ i : Nat, n = (i : Int) := ⟨n.toNat, by omega⟩
      have hi : i < x.entries.length := by omega
      have hiI : (i : Int) < (x.entries.length : Int) := by omega
      have hi0 : ¬ (i : Int) < 0 := by omega
      have hev : Lx.entryV x (i : Int) = 0 := by
        unfold Lx.entryV
        rw [HV.out, HZ.out, if_neg (by simp), if_pos (by simp [Lx.withinB]; omega)]
      obtain ⟨t0, t1, t2⟩ := Lx.tooMany_no (Lx.check_parts (Lx.entry_good hev).1).1
      have HCR : Hid (Lx.countR x (i : Int) = ((Lx.formsV x i).length : Int)) := Lib.hid (by unfold Lx.countR; rw [if_pos hev]; simp)
      have HEV := Lib.hid hev
      clear hev hn
      go_wp2_with fail
      refine (rall_any x i hi t1 t0 t2 _ w1 ((HR.out.below HB1.out).more HB1.out.size)).mono ?_
      rintro e2 w2 ⟨v2, rfl, ho2, hb2⟩
      obtain ⟨Ao, co, rfl⟩ := ho2.form
      have HB2 := Lib.hid (HB1.out.trans (hb2.mono HB1.out.size))
      clear ho2 hb2
      go_wp2_with fail
      go_ret2
      exact ⟨ret_cn HCR.out.symm HEV.out.symm, HB2.out⟩
    · have hev : Lx.entryV x n = 45 := by
        unfold Lx.entryV
        rw [HV.out, HZ.out, if_neg (by simp), if_neg (by simp [Lx.withinB]; omega)]
      have HF : Hid (Lx.countR x n = 0) := Lib.hid (by unfold Lx.countR; rw [hev, if_neg (by decide)])
      have HEV := Lib.hid hev
      clear hev
      by_cases hn0 : n < 0
      · have hd : decide (n < 0) = true := by simp [hn0]
        clear hn
        go_wp2_with fail
        go_ret2
        exact ⟨ret_cn HF.out.symm HEV.out.symm, HB1.out⟩
      · have hd : decide (n < 0) = false := by simp; omega
        have hd1 : (x.entries.length : Int) ≤ n := by omega
        clear hn
        go_wp2_with fail
        go_ret2
        exact ⟨ret_cn HF.out.symm HEV.out.symm, HB1.out⟩
  · have hq : (cv == 0) = false := by simp [hz]
    have hq' : (cv != 0) = true := by simp [hz]
    have hev : Lx.entryV x n = cv := by unfold Lx.entryV; rw [HV.out, if_pos hz]
    have HF : Hid (Lx.countR x n = 0) := Lib.hid (by unfold Lx.countR; rw [hev, if_neg hz])
    have HEV := Lib.hid hev
    clear hz hev
    go_wp2_with fail
    go_ret2
    exact ⟨ret_cn HF.out.symm HEV.out.symm, HB1.out⟩

set_option maxRecDepth 100000 in
set_option maxHeartbeats 4000000 in
theorem rForms_any (v : Value) (x : Lx.Lexicon) (n : Int) (w : World) (hr : RdL w w.heap.size v x) : Calls Tryd.prog 8 #[v, .int .i64 n] w (RetFs x n w) := by
  have HCT : Hid (∀ (W : World), Below w.heap.size w W → Calls Tryd.prog 10 #[v, .int .i64 n] W (RetCN (Lx.countR x n) (Lx.entryV x n) W)) := Lib.hid fun W hW => rCount_any v x n W ((hr.below hW).more hW.size)
  have HR := Lib.hid hr
  obtain ⟨⟨v0, v1, v2, rfl, ⟨A0, c0, rfl, -⟩, ⟨A1, c1, rfl, -⟩, ⟨A2, c2, rfl, -⟩⟩, -, -, -⟩ := hr
  generalize hcv : Lx.entryV x n = cv at HCT
  generalize hct : Lx.countR x n = ct at HCT
  have HV := Lib.hid hcv
  have HT := Lib.hid hct
  clear hcv hct
  go_enter Tryd.func8, Tryd.ntmps8
  go_wp2_with fail
  refine (HCT.out _ ((Below.refl _ _).alloc (Nat.le_refl _) _)).mono ?_
  rintro e1 w1 ⟨rfl, hb1⟩
  have hX : w1.heap[w.heap.size]? = some (.cells #[.slice A0 x.entries.length c0, .slice A1 x.endings.length c1, .slice A2 x.clitics.length c2] 26 (0, 0)) := (hb1.block _ (by simp)).trans (heap_alloc_new _ _)
  have x0 : w1.cell? ⟨w.heap.size, 0, none⟩ = some (.slice A0 x.entries.length c0) := by simp [World.cell?, hX]
  have x1 : w1.cell? ⟨w.heap.size, 1, none⟩ = some (.slice A1 x.endings.length c1) := by simp [World.cell?, hX]
  have x2 : w1.cell? ⟨w.heap.size, 2, none⟩ = some (.slice A2 x.clitics.length c2) := by simp [World.cell?, hX]
  have HB1 := Lib.hid (((Below.refl w.heap.size w).alloc (Nat.le_refl _) _).trans (hb1.mono (by simp)))
  clear hb1 hX
  by_cases hz : cv = 0
  · have hq : (cv == 0) = true := by simp [hz]
    have hq' : (cv != 0) = false := by simp [hz]
    have hev : Lx.entryV x n = 0 := by rw [HV.out, hz]
    obtain ⟨hchk, i, rfl, hi⟩ := Lx.entry_good hev
    obtain ⟨t0, t1, t2⟩ := Lx.tooMany_no (Lx.check_parts hchk).1
    have hcr : ct = ((Lx.formsV x i).length : Int) := by rw [← HT.out]; unfold Lx.countR; rw [if_pos hev]; simp
    by_cases hmany : 1000 < (Lx.formsV x i).length
    · have hmI : (1000 : Int) < ct := by omega
      have hz1 : Lx.formsN x (i : Int) = 2 := by
        unfold Lx.formsN
        rw [if_pos hev, Int.toNat_natCast, if_pos hmany]
      have hz2 : Lx.formsR x (i : Int) = [] := by
        unfold Lx.formsR
        rw [hz1, if_neg (by decide)]
      have HZ1 := Lib.hid hz1
      have HZ2 := Lib.hid hz2
      clear hz hev hchk hcr hmany hz1 hz2
      go_wp2_with fail
      go_ret2
      exact ⟨_, ret_vi HZ1.out.symm, by rw [HZ2.out]; exact RdG.nil _ _, HB1.out⟩
    · have hmI : ¬ (1000 : Int) < ct := by omega
      have hz1 : Lx.formsN x (i : Int) = 0 := by
        unfold Lx.formsN
        rw [if_pos hev, Int.toNat_natCast, if_neg hmany]
      have hz2 : Lx.formsR x (i : Int) = Lx.formsV x i := by
        unfold Lx.formsR
        rw [if_pos hz1, Int.toNat_natCast]
      have HZ1 := Lib.hid hz1
      have HZ2 := Lib.hid hz2
      clear hz hev hchk hcr hmany hz1 hz2
      go_wp2_with fail
      refine (rall_any x i hi t1 t0 t2 _ w1 ((HR.out.below HB1.out).more HB1.out.size)).mono ?_
      rintro e2 w2 ⟨v2, rfl, ho2, hb2⟩
      have HO2 := Lib.hid ho2
      obtain ⟨Ao, co, rfl⟩ := ho2.form
      have HB2 := Lib.hid (HB1.out.trans (hb2.mono HB1.out.size))
      clear ho2 hb2
      go_wp2_with fail
      go_ret2
      exact ⟨_, ret_vi HZ1.out.symm, by rw [HZ2.out]; exact HO2.out.rd.keep fun b hb => ⟨⟨hb.1, Nat.le_trans HB1.out.size hb.2⟩, rfl⟩, HB2.out⟩
  · have hq : (cv == 0) = false := by simp [hz]
    have hq' : (cv != 0) = true := by simp [hz]
    have f3 : Lx.formsN x n = cv := by unfold Lx.formsN; rw [HV.out, if_neg hz]
    have f4 : Lx.formsR x n = [] := by unfold Lx.formsR; rw [f3, if_neg hz]
    have F3 := Lib.hid f3
    have F4 := Lib.hid f4
    clear hz f3 f4
    go_wp2_with fail
    go_ret2
    exact ⟨_, ret_vi F3.out.symm, by rw [F4.out]; exact RdG.nil _ _, HB1.out⟩
end Go.Proofs.YtpmnpnlfgfleeaaDoor
