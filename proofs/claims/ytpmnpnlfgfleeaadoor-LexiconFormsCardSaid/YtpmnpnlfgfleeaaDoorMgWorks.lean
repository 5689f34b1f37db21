/- works: the look at an example. -/
import Derived.Test.YtpmnpnlfgfleeaaDoorMgCuts
import Derived.Test.YtpmnpnlfgfleeaaDoorMgWorksPlain
import Derived.Test.YtpmnpnlfgfleeaaDoorMgBig
namespace Go.Proofs.YtpmnpnlfgfleeaaDoor
open Go.RowKit

theorem known_eq : Lx.known = _root_.Lx.knownL := rfl
theorem speech0 : Lx.speechV _root_.Lx.knownL _root_.Lx.nn = 0 := by
  unfold Lx.speechV
  rw [_root_.Lx.check0, _root_.Lx.sounds0]
  rfl
theorem Cuts_works (vx : Value) (w : World) (hr : RdL w w.heap.size vx _root_.Lx.knownL) :
    Calls Tryd.prog 14 #[vx, .string ⟨#[110, 110]⟩, .int .i64 64] w (RetVI w (fun w' v => RdG KCut w' (fun b => b < w'.heap.size) v (_root_.Lx.cutsOf (_root_.Lx.tabT _root_.Lx.knownL _root_.Lx.put0 _root_.Lx.atsL 2 2 0))) 0) :=
  Cuts_any _root_.Lx.put0 _root_.Lx.knownL _root_.Lx.nn 64 vx w hr speech0 (by decide) (by decide) _root_.Lx.put0_mem (fun l t => Nat.le_trans (_root_.Lx.put0_len l t) (by decide)) (fun tv l t _ ho => by
    have h0 := _root_.Lx.occ0 ho
    subst h0
    exact add_first (by decide) (by decide) rfl)

set_option maxRecDepth 100000 in
set_option maxHeartbeats 4000000 in
theorem works_any (w : World) : Calls Tryd.prog 5 #[] w (RetBB true w) := by
  go_enter Tryd.func5, Tryd.ntmps5
  go_wp2_with fail
  refine (known_any _).mono ?_
  rintro e1 w1 ⟨v1, rfl, hk1, hb1⟩
  have HB1 := Lib.hid hb1
  have HK1 := Lib.hid hk1
  obtain ⟨⟨v10, v11, v12, rfl, -⟩, -, -, -⟩ := hk1
  clear hb1
  go_wp2_with fail
  have hal : Below w1.heap.size w1 (w1.alloc (.cells #[.int .i64 0] 3)) := (Below.refl _ _).alloc (Nat.le_refl _) _
  have hfr : RdF (w1.alloc (.cells #[.int .i64 0] 3)) (w1.heap.size + 1) (.agg #[.int .i64 0, .int .i64 0, .slice (some ⟨w1.heap.size, 0, none⟩) 1 1]) ⟨0, 0, [0]⟩ :=
    ⟨⟨_, rfl, rds_block (xs := [(0 : Int)]) len_int (heap_alloc_new _ _) rfl (by omega) (Nat.le_refl 1) (by decide)⟩⟩
  refine (Gloss_any _ _ _root_.Lx.knownL ⟨0, 0, [0]⟩ _ ((HK1.out.below hal).more hal.size) (by simpa using hfr)).mono ?_
  rintro e2 w2 ⟨rfl, hb2⟩
  rw [_root_.Lx.gloss0, _root_.Lx.form0]
  have HB2 := Lib.hid (HB1.out.trans ((hal.trans (hb2.mono hal.size)).mono HB1.out.size))
  clear hal hfr hb2
  go_wp2_with fail
  refine (known_any _).mono ?_
  rintro e3 w3 ⟨v3, rfl, hk3, hb3⟩
  have HB3 := Lib.hid (HB2.out.trans (hb3.mono HB2.out.size))
  have HK3 := Lib.hid hk3
  obtain ⟨⟨v30, v31, v32, rfl, -⟩, -, -, -⟩ := hk3
  clear hb3
  go_wp2_with fail
  refine (Cuts_works _ _ HK3.out).mono ?_
  rintro e4 w4 ⟨v4, rfl, hq, hb4⟩
  have HB4 := Lib.hid (HB3.out.trans (hb4.mono HB3.out.size))
  clear hb4
  obtain ⟨c, hc, hc1, hc2⟩ : ∃ c, _root_.Lx.cutsOf (_root_.Lx.tabT _root_.Lx.knownL _root_.Lx.put0 _root_.Lx.atsL 2 2 0) = [c] ∧ c.1.length = 2 ∧ c.2 = 2 := by
    have h1 := _root_.Lx.cuts0_forms
    generalize _root_.Lx.cutsOf (_root_.Lx.tabT _root_.Lx.knownL _root_.Lx.put0 _root_.Lx.atsL 2 2 0) = l at h1
    cases l with
    | nil => cases h1
    | cons c r =>
      cases r with
      | nil => simp at h1; exact ⟨c, rfl, h1.1, h1.2⟩
      | cons _ _ => simp at h1
  rw [hc] at hq
  obtain ⟨A4, c4, rfl⟩ := hq.form
  obtain ⟨b4, o4, rfl, hbl, hat⟩ := hq.at (by simp)
  obtain ⟨cs, ⟨vf, rfl, hrf⟩, hcell⟩ := hat 0 c rfl
  obtain ⟨Af, cf, rfl⟩ := hrf.form
  have g0 : w4.cell? ⟨b4, o4, none⟩ = some (.slice Af c.1.length cf) := by have := hcell 0 _ rfl; simpa [KCut] using this
  have g1 : w4.cell? ⟨b4, o4 + 1, none⟩ = some (.int .i64 c.2) := by have := hcell 1 _ rfl; simpa [KCut] using this
  rw [hc1] at g0
  rw [hc2] at g1
  clear hcell hat hrf hq hc hc1 hc2
  go_wp2_with fail
  go_ret
  exact ⟨rfl, HB4.out⟩
end Go.Proofs.YtpmnpnlfgfleeaaDoor
