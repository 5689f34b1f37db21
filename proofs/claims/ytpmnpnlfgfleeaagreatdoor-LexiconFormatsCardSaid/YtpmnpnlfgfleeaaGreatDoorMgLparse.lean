/- lexicon.Parse. -/
import Derived.Test.YtpmnpnlfgfleeaaGreatDoorMgLread
import Derived.Test.YtpmnpnlfgfleeaaGreatDoorMgRParseT
namespace Go.Proofs.YtpmnpnlfgfleeaaGreatDoor
open Go Go.RowKit

theorem Lx.lines_cut {r a rest : List UInt8} (h : Lib.cut r [10] = (a, rest, true)) : Lx.linesV r = (a :: (Lx.linesV rest).1, (Lx.linesV rest).2) ∧ ((Lx.linesV rest).1 = [] → (Lx.linesV rest).2 = true) ∧ rest.length + 1 + a.length = r.length := by
  obtain ⟨a0, ws, e1, e2, h3, h4⟩ := Lx.pst_join 10 r
  cases ws with
  | nil =>
    rw [e2, List.flatMap_nil, List.append_nil, Lx.cut_byte_none h3] at h
    simp at h
  | cons b ws =>
    rw [List.flatMap_cons, List.cons_append] at e2
    have hsp : Lib.split r [10] = a0 :: b :: ws := by rw [Lx.pst_split, e1]
    rw [e2, Lx.cut_byte _ h3] at h
    simp only [Prod.mk.injEq, and_true] at h
    obtain ⟨rfl, rfl⟩ := h
    have hs2 : Lib.split (b ++ ws.flatMap (10 :: ·)) [10] = b :: ws := Lx.split_byte ws b (h4 b (by simp)) (fun w hw => h4 w (by simp [hw]))
    refine ⟨?_, ?_, by rw [e2]; simp; omega⟩
    · unfold Lx.linesV
      rw [hsp, hs2, List.getLast?_cons_cons]
      split <;> rfl
    · unfold Lx.linesV
      rw [hs2]
      split
      · intro _; rfl
      · intro h; cases h
theorem Lx.lines_nocut {r a rest : List UInt8} (h : Lib.cut r [10] = (a, rest, false)) (hr : r ≠ []) : Lx.linesV r = ([r], false) := by
  obtain ⟨a0, ws, e1, e2, h3, h4⟩ := Lx.pst_join 10 r
  cases ws with
  | nil =>
    rw [List.flatMap_nil, List.append_nil] at e2
    subst e2
    unfold Lx.linesV
    rw [Lx.pst_split, e1]
    simp [hr]
  | cons b ws =>
    rw [List.flatMap_cons, List.cons_append] at e2
    rw [e2, Lx.cut_byte _ h3] at h
    simp at h
theorem Lx.lines_nil : Lx.linesV [] = ([], true) := rfl

set_option maxRecDepth 100000 in
set_option maxHeartbeats 4000000 in
theorem Parse_any (t : ByteArray) (m : Int) (w : World) (hm : w.cell? ⟨0, 0, none⟩ = some (.int .i64 m)) (hw0 : 0 < w.heap.size) (ht : t.size ≤ 100000) : Calls Tryz.prog 19 #[.string t] w (RetP (Lx.parseV t.data.toList) w) := by
  have hlen : t.data.toList.length = t.size := rfl
  have HM : Hid (∀ W, Below w.heap.size w W → W.cell? ⟨0, 0, none⟩ = some (.int .i64 m)) := Lib.hid fun W hW => (hW.cell (p := ⟨0, 0, none⟩) hw0).trans hm
  clear hm
  by_cases hbig : 65536 < t.size
  · have HP : Hid (Lx.parseV t.data.toList = (Lx.none3, 0, 2)) := Lib.hid (by unfold Lx.parseV; rw [if_pos (by rw [hlen]; exact hbig)])
    rw [HP.out]
    have hbI : 65536 < (t.size : Int) := by omega
    go_enter Tryz.func19, Tryz.ntmps19
    go_wp2_with fail
    obtain ⟨r0, r1, r2⟩ := lex_cells (heap_alloc_new w (.cells #[.slice none 0 0, .slice none 0 0, .slice none 0 0] 26))
    refine bodyPost_ret (v := .tuple #[.agg #[.slice none 0 0, .slice none 0 0, .slice none 0 0], .int .i64 0, .int .i64 2]) (by simp [results, Tryz.results19, go_sem, r0, r1, r2]) rfl ⟨_, rfl, rdl_none3 _ _, ?_⟩
    exact (Below.refl _ _).alloc (Nat.le_refl _) _
  · have hbI : ¬ 65536 < (t.size : Int) := by omega
    obtain ⟨R, hR⟩ : ∃ R, R = Lx.parseV t.data.toList := ⟨_, rfl⟩
    rw [← hR]
    have HR0 : Hid (Lx.readL (Lx.linesV t.data.toList).2 (Lx.linesV t.data.toList).1 0 Lx.none3 = R) := Lib.hid (by rw [hR]; unfold Lx.parseV; rw [if_neg (by rw [hlen]; exact hbig)])
    clear hR hlen
    go_enter Tryz.func19, Tryz.ntmps19
    go_wp2_with fail
    have HNEW := Lib.hid (lexOwn_new w)
    go_loopg [0, 3] t.size (fun g s i wr => ∃ (k : Nat) (r : ByteArray) (y : Lx.Lexicon), g = r.size ∧ k + r.size ≤ t.size ∧ s = .string r ∧ i = .int .i64 k ∧ LexOwn wr w.heap.size y ∧ Below w.heap.size w wr ∧ Lx.readL (Lx.linesV r.data.toList).2 (Lx.linesV r.data.toList).1 k y = R ∧ y.entries.length ≤ k ∧ y.endings.length ≤ k ∧ y.clitics.length ≤ k)
    case atStart => exact ⟨0, t, Lx.none3, rfl, by omega, rfl, rfl, HNEW.out, (Below.refl _ _).alloc (Nat.le_refl _) _, HR0.out, Nat.le_refl _, Nat.le_refl _, Nat.le_refl _⟩
    case round =>
      obtain ⟨k, r, y, rfl, hk, rfl, rfl, hown, hbel, hre, hn0, hn1, hn2⟩ := hrel
      have hplt : w.heap.size < wr.heap.size := by
        obtain ⟨v0, v1, v2, hcell, hrows⟩ := hown
        refine Decidable.byContradiction fun hn => ?_
        rw [Array.getElem?_eq_none (by omega)] at hcell
        cases hcell
      have HOWN := Lib.hid hown
      have HBEL := Lib.hid hbel
      have HRE := Lib.hid hre
      clear hown hbel hre
      by_cases he : r.data.toList = []
      · obtain rfl := ba_empty he
        obtain ⟨v0, v1, v2, hcell, hrows⟩ := HOWN.out
        obtain ⟨A0, c0, rfl⟩ := own_form hrows.o0
        obtain ⟨A1, c1, rfl⟩ := own_form hrows.o1
        obtain ⟨A2, c2, rfl⟩ := own_form hrows.o2
        obtain ⟨p0, p1, p2⟩ := lex_cells hcell
        have HROWS := Lib.hid hrows
        have HCELL := Lib.hid hcell
        clear hrows hcell he
        go_wp2_with fail
        refine (Check_any _ y wr HROWS.out.rd).mono ?_
        rintro e w3 ⟨rfl, hb3⟩
        have hs3 := hb3.size
        obtain ⟨r0, r1, r2, z0, z1, z2⟩ := lex_cells6 ((hb3.block w.heap.size (by omega)).trans HCELL.out)
        have HROW3 := Lib.hid (HROWS.out.below hb3)
        have HB3 := Lib.hid (HBEL.out.trans (hb3.mono (by omega)))
        obtain ⟨cv, hcv⟩ : ∃ n, n = Lx.checkV y := ⟨_, rfl⟩
        rw [← hcv]
        have HCV := Lib.hid hcv
        clear hcv hb3
        by_cases hz : cv = 0
        · have HRR : Hid (R = (y, 0, 0)) := Lib.hid (by
            have := HRE.out
            rw [Lx.lines_nil, Lx.readL, if_pos (by rw [← HCV.out]; exact hz)] at this
            exact this.symm)
          go_wp2_with fail
          have hst : w.heap.size < w.heap.size + 1 := by omega
          exact bodyPost_ret (v := .tuple #[.agg #[.slice A0 y.entries.length c0, .slice A1 y.endings.length c1, .slice A2 y.clitics.length c2], .int .i64 0, .int .i64 0]) (by simp [results, Tryz.results19, go_sem, r0, r1, r2]) rfl (retP_of HRR.out (((HROW3.out.store (by exact hst) _).store (by exact hst) _).store (by exact hst) _).rd (((HB3.out.setCell (by exact Nat.le_refl _) _).setCell (by exact Nat.le_refl _) _).setCell (by exact Nat.le_refl _) _))
        · have HRR : Hid (R = (Lx.none3, 0, cv)) := Lib.hid (by
            have := HRE.out
            rw [Lx.lines_nil, Lx.readL, if_neg (by rw [← HCV.out]; exact hz), ← HCV.out] at this
            exact this.symm)
          go_wp2_with fail
          exact bodyPost_ret (v := .tuple #[.agg #[.slice none 0 0, .slice none 0 0, .slice none 0 0], .int .i64 0, .int .i64 cv]) (by simp [results, Tryz.results19, go_sem, r0, r1, r2]) rfl (retP_of HRR.out (rdl_none3 _ _) (((HB3.out.setCell (by exact Nat.le_refl _) _).setCell (by exact Nat.le_refl _) _).setCell (by exact Nat.le_refl _) _))
      · have hb1 : r.toList.isEmpty = false := empty_not he
        obtain ⟨a, rest, has, hcut⟩ : ∃ (a rest : ByteArray) (has : Bool), Lib.cut r.data.toList [10] = (a.data.toList, rest.data.toList, has) := ⟨⟨(Lib.cut r.data.toList [10]).1.toArray⟩, ⟨(Lib.cut r.data.toList [10]).2.1.toArray⟩, (Lib.cut r.data.toList [10]).2.2, rfl⟩
        have HCUT : Hid (Calls Tryz.prog 35 #[.string r, .string ⟨#[10]⟩] wr fun e w' => e = .returned (.tuple #[.string a, .string rest, .bool has]) ∧ ∃ n, w' = wr.drewN n) := Lib.hid (by
          have := Tryz.strings_Cut r ⟨#[10]⟩ m wr (by omega) (HM.out wr HBEL.out)
          have e : (⟨#[10]⟩ : ByteArray).data.toList = [10] := rfl
          rw [e, hcut] at this
          exact this)
        cases has
        · have HRR : Hid (R = (Lx.none3, (k : Int) + 1, 4)) := Lib.hid (by
            have := HRE.out
            rw [Lx.lines_nocut hcut he, Lx.readL_bad (.inl ⟨rfl, rfl⟩)] at this
            exact this.symm)
          obtain ⟨v0, v1, v2, hcell, -⟩ := HOWN.out
          clear hcut he
          go_wp2_with fail
          refine HCUT.out.mono ?_
          rintro e w2 ⟨rfl, n, hw2⟩
          have HB2 : Hid (Below w.heap.size w w2) := Lib.hid (by rw [hw2]; exact below_drewN HBEL.out _)
          have hcell2 : w2.heap[w.heap.size]? = some (.cells #[v0, v1, v2] 26 (0, 0)) := by rw [hw2]; exact hcell
          obtain ⟨r0, r1, r2, z0, z1, z2⟩ := lex_cells6 hcell2
          clear hw2 hcell hcell2
          go_wp2_with fail
          exact bodyPost_ret (v := .tuple #[.agg #[.slice none 0 0, .slice none 0 0, .slice none 0 0], .int .i64 ((k : Int) + 1), .int .i64 4]) (by simp [results, Tryz.results19, go_sem, r0, r1, r2]) rfl (retP_of HRR.out (rdl_none3 _ _) (((HB2.out.setCell (by exact Nat.le_refl _) _).setCell (by exact Nat.le_refl _) _).setCell (by exact Nat.le_refl _) _))
        · obtain ⟨hl1, hl2, hl3⟩ := Lx.lines_cut hcut
          have hl4 : rest.size + 1 + a.size = r.size := hl3
          have HRE2 : Hid (Lx.readL (Lx.linesV rest.data.toList).2 (a.data.toList :: (Lx.linesV rest.data.toList).1) k y = R) := Lib.hid (by have := HRE.out; rwa [hl1] at this)
          have HNL : Hid (¬ ((Lx.linesV rest.data.toList).1 = [] ∧ (Lx.linesV rest.data.toList).2 = false)) := Lib.hid fun q => by have := hl2 q.1; rw [q.2] at this; cases this
          clear hcut he hl1 hl2 hl3
          go_wp2_with fail
          refine HCUT.out.mono ?_
          rintro e w1 ⟨rfl, n, hw1⟩
          have hbd : Below wr.heap.size wr w1 := by rw [hw1]; exact below_drewN (Below.refl _ _) _
          have HB1 : Hid (Below w.heap.size w w1) := Lib.hid (HBEL.out.trans (hbd.mono (by omega)))
          have HO1 := Lib.hid (HOWN.out.below hbd)
          have hs1 : wr.heap.size ≤ w1.heap.size := hbd.size
          clear hbd hw1
          go_wp2_with fail
          refine (lread_any w.heap.size y a m w1 HO1.out (HM.out _ HB1.out) (by omega) (by omega) (by omega) (by omega)).mono ?_
          rintro e w2 ⟨⟨rfl, hb2, ho2⟩, u0, u1, u2, hcell2⟩
          have hs2 := hb2.size
          cases hq : Lx.lineV y (Lib.split a.data.toList [32]) with
          | none =>
            have HRR : Hid (R = (Lx.none3, (k : Int) + 1, 4)) := Lib.hid (by
              have := HRE2.out
              rw [Lx.readL_bad (.inr hq)] at this
              exact this.symm)
            obtain ⟨r0, r1, r2, z0, z1, z2⟩ := lex_cells6 hcell2
            have HB2 := Lib.hid (HB1.out.trans hb2)
            clear hq ho2 hb2 hcell2
            go_wp2_with fail
            exact bodyPost_ret (v := .tuple #[.agg #[.slice none 0 0, .slice none 0 0, .slice none 0 0], .int .i64 ((k : Int) + 1), .int .i64 4]) (by simp [results, Tryz.results19, go_sem, r0, r1, r2]) rfl (retP_of HRR.out (rdl_none3 _ _) (((HB2.out.setCell (by exact Nat.le_refl _) _).setCell (by exact Nat.le_refl _) _).setCell (by exact Nat.le_refl _) _))
          | some y' =>
            have HO2 := Lib.hid (ho2 y' hq)
            have HB2 := Lib.hid (HB1.out.trans hb2)
            have hgr := Lx.lineV_grow hq
            have HRE3 := Lib.hid (by
              have := HRE2.out
              rwa [Lx.readL_step HNL.out hq] at this)
            clear hq ho2 hb2 hcell2
            go_wp2_with fail
            go_roundg rest.size
            case measure => omega
            case rel => exact ⟨k + 1, rest, y', rfl, by omega, rfl, by go_num, HO2.out, HB2.out, HRE3.out, by omega, by omega, by omega⟩
end Go.Proofs.YtpmnpnlfgfleeaaGreatDoor
