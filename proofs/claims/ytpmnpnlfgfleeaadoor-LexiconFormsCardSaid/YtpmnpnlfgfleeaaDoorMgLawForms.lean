/- ostraconlaw05.LexiconForms: the walk. -/
import Derived.Test.YtpmnpnlfgfleeaaDoorMgRForms
import Derived.Test.YtpmnpnlfgfleeaaDoorMgSameForms
import Derived.Test.YtpmnpnlfgfleeaaDoorMgWorks
import Derived.Test.YtpmnpnlfgfleeaaDoorMgBig
import Derived.Test.YtpmnpnlfgfleeaaDoorMgCopy
namespace Go.Proofs.YtpmnpnlfgfleeaaDoor
open Go Go.RowKit

theorem Lx.formsR_small {x : Lx.Lexicon} {n : Int} : ∀ f ∈ Lx.formsR x n, FSmall f := by
  intro f hf
  unfold Lx.formsR at hf
  split at hf
  · rename_i hz
    have hev : Lx.entryV x n = 0 := by
      unfold Lx.formsN at hz
      split at hz
      · assumption
      · rename_i q; exact absurd hz q
    obtain ⟨hchk, i, rfl, hi⟩ := Lx.entry_good hev
    obtain ⟨t0, t1, t2⟩ := Lx.tooMany_no (Lx.check_parts hchk).1
    rw [Int.toNat_natCast] at hf
    obtain ⟨h1, h2, h3, h4, h5⟩ := Lx.formsV_in hf
    exact ⟨by omega, by omega, by omega, fun k c hc => by have := h5 c (List.mem_of_getElem? hc); omega⟩
  · cases hf

set_option maxRecDepth 100000 in
set_option maxHeartbeats 8000000 in
theorem LexiconForms_any (v : Value) (x : Lx.Lexicon) (n : Int) (w : World) (hr : RdL w w.heap.size v x) : Calls Tryd.prog 3 #[v, .int .i64 n] w (RetBB true w) := by
  have HR := Lib.hid hr
  obtain ⟨⟨v0, v1, v2, rfl, ⟨A0, c0, rfl, -⟩, ⟨A1, c1, rfl, -⟩, ⟨A2, c2, rfl, -⟩⟩, -, -, -⟩ := hr
  obtain ⟨wA, hwA⟩ : ∃ wA, wA = w.alloc (.cells #[.slice A0 x.entries.length c0, .slice A1 x.endings.length c1, .slice A2 x.clitics.length c2] 26) := ⟨_, rfl⟩
  have hba : Below w.heap.size w wA := by rw [hwA]; exact (Below.refl _ _).alloc (Nat.le_refl _) _
  have hsa : wA.heap.size = w.heap.size + 1 := by rw [hwA]; simp
  have hX : wA.heap[w.heap.size]? = some (.cells #[.slice A0 x.entries.length c0, .slice A1 x.endings.length c1, .slice A2 x.clitics.length c2] 26 (0, 0)) := by rw [hwA]; exact heap_alloc_new _ _
  have BXA : Hid (∀ W, Below wA.heap.size wA W → W.cell? ⟨w.heap.size, 0, none⟩ = some (.slice A0 x.entries.length c0) ∧ W.cell? ⟨w.heap.size, 1, none⟩ = some (.slice A1 x.endings.length c1) ∧ W.cell? ⟨w.heap.size, 2, none⟩ = some (.slice A2 x.clitics.length c2)) := Lib.hid fun W hW => by
    have a := (hW.block w.heap.size (by omega)).trans hX
    exact ⟨by simp [World.cell?, a], by simp [World.cell?, a], by simp [World.cell?, a]⟩
  have HBA := Lib.hid hba
  have HGL := Lib.hid (fun (W : World) (hW : Below wA.heap.size wA W) => (HR.out.below (hba.trans (hW.mono hba.size))).more (hba.trans (hW.mono hba.size)).size)
  have HBig := Lib.hid (fun (W : World) (hW : Below wA.heap.size wA W) => Big_any _ x W (HGL.out W hW))
  have HWA := Lib.hid hwA
  clear hba hX hwA hsa
  go_enter Tryd.func3, Tryd.ntmps3
  go_wp2_with fail
  rw [← HWA.out]
  obtain ⟨g0, g1, g2⟩ := BXA.out wA (Below.refl _ _)
  go_wp2_with fail
  refine (HBig.out wA (Below.refl _ _)).mono ?_
  rintro e1 w1 ⟨rfl, hb1⟩
  have H1 := Lib.hid hb1
  clear g0 g1 g2
  obtain ⟨g0, g1, g2⟩ := BXA.out w1 hb1
  clear hb1 HWA
  cases hbig : Lx.bigV x
  · have hsmall : x.entries.length ≤ 210 ∧ x.endings.length ≤ 50 ∧ x.clitics.length ≤ 15 := by
      simp [Lx.bigV] at hbig; omega
    obtain ⟨hs1, hs2, hs3⟩ := hsmall
    clear hbig
    have HCPY := Lib.hid (fun (W : World) (hW : Below wA.heap.size wA W) => rCopy_any _ x W (HGL.out W hW) (by omega) (by omega) (by omega))
    have HSM : Hid (∀ f ∈ Lx.formsR x n, FSmall f) := Lib.hid Lx.formsR_small
    obtain ⟨fn, hfn⟩ : ∃ fn, fn = Lx.formsN x n := ⟨_, rfl⟩
    obtain ⟨ev, hev⟩ : ∃ ev, ev = Lx.entryV x n := ⟨_, rfl⟩
    obtain ⟨ct, hct⟩ : ∃ ct, ct = Lx.countR x n := ⟨_, rfl⟩
    have HFN := Lib.hid hfn
    have HEV := Lib.hid hev
    have HCT := Lib.hid hct
    clear hfn hev hct
    go_wp2_with fail
    refine (HCPY.out w1 H1.out).mono ?_
    rintro e2 w2 ⟨v2, rfl, hr2, hb2⟩
    have H2 := Lib.hid (H1.out.trans (hb2.mono H1.out.size))
    have HR2 := Lib.hid hr2
    clear hb2 hr2 g0 g1 g2
    go_wp2_with fail
    refine (Forms_any v2 x n w2 HR2.out).mono ?_
    rintro e3 w3 ⟨v3, rfl, hf3, hb3⟩
    rw [← HFN.out]
    obtain ⟨A3, c3, rfl⟩ := hf3.form
    have H3 := Lib.hid (H2.out.trans (hb3.mono H2.out.size))
    have HF3 := Lib.hid hf3
    clear hb3 hf3
    obtain ⟨g0, g1, g2⟩ := BXA.out w3 H3.out
    go_wp2_with fail
    refine (rForms_any _ x n w3 (HGL.out w3 H3.out)).mono ?_
    rintro e4 w4 ⟨v4, rfl, hf4, hb4⟩
    rw [← HFN.out]
    obtain ⟨A4, c4, rfl⟩ := hf4.form
    have H4 := Lib.hid (H3.out.trans (hb4.mono H3.out.size))
    have HF4 := Lib.hid hf4
    have HB4 := Lib.hid hb4
    clear hb4 hf4 g0 g1 g2
    obtain ⟨g0, g1, g2⟩ := BXA.out w4 H4.out
    go_wp2_with fail
    refine (HCPY.out w4 H4.out).mono ?_
    rintro e5 w5 ⟨v5, rfl, hr5, hb5⟩
    have H5 := Lib.hid (H4.out.trans (hb5.mono H4.out.size))
    have HR5 := Lib.hid hr5
    have HB5 := Lib.hid hb5
    clear hb5 hr5 g0 g1 g2
    go_wp2_with fail
    refine (Count_any v5 x n w5 HR5.out).mono ?_
    rintro e6 w6 ⟨rfl, hb6⟩
    rw [← HEV.out, ← HCT.out]
    have H6 := Lib.hid (H5.out.trans (hb6.mono H5.out.size))
    have HB6 := Lib.hid hb6
    clear hb6
    obtain ⟨g0, g1, g2⟩ := BXA.out w6 H6.out
    go_wp2_with fail
    refine (rCount_any _ x n w6 (HGL.out w6 H6.out)).mono ?_
    rintro e7 w7 ⟨rfl, hb7⟩
    rw [← HEV.out, ← HCT.out]
    have H7 := Lib.hid (H6.out.trans (hb7.mono H6.out.size))
    have HB47 : Hid (Below w4.heap.size w4 w7) := Lib.hid ((HB5.out.trans (HB6.out.mono HB5.out.size)).trans (hb7.mono (Nat.le_trans HB5.out.size HB6.out.size)))
    clear hb7 g0 g1 g2
    have HSF : Hid (Calls Tryd.prog 11 #[.slice A3 (Lx.formsR x n).length c3, .slice A4 (Lx.formsR x n).length c4] w7 (RetBB true w7)) := Lib.hid (by
      have h34 := HB4.out.size
      have h47 := HB47.out.size
      have := SameForms_any _ _ (Lx.formsR x n) (Lx.formsR x n) w7 (fun b => b < w7.heap.size) (fun b hb => hb)
        (RdG.keep HF3.out (fun b hb => ⟨by have := hb.1; omega, (HB47.out.block b (by have := hb.1; omega)).trans (HB4.out.block b hb.1)⟩))
        (RdG.keep HF4.out (fun b hb => ⟨by have := hb.1; omega, HB47.out.block b hb.1⟩)) HSM.out HSM.out
      simpa using this)
    go_wp2_with fail
    refine HSF.out.mono ?_
    rintro e8 w8 ⟨rfl, hb8⟩
    have H8 := Lib.hid (H7.out.trans (hb8.mono H7.out.size))
    clear hb8
    go_wp2_with (go_at_call 5; refine (works_any _).mono ?_; rintro e9 w9 ⟨rfl, hb9⟩)
    go_ret
    exact ⟨rfl, HBA.out.trans ((H8.out.trans (hb9.mono H8.out.size)).mono HBA.out.size)⟩
  · clear hbig
    go_wp2_with (go_at_call 5; refine (works_any _).mono ?_; rintro e2 w2 ⟨rfl, hb2⟩)
    go_ret
    exact ⟨rfl, HBA.out.trans ((H1.out.trans (hb2.mono H1.out.size)).mono HBA.out.size)⟩
end Go.Proofs.YtpmnpnlfgfleeaaDoor
