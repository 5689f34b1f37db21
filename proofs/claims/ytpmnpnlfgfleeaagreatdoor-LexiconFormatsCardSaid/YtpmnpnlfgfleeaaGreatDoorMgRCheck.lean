/- The reference's Check. -/
import Derived.Test.YtpmnpnlfgfleeaaGreatDoorMgLeaf
import Derived.Test.YtpmnpnlfgfleeaaGreatDoorMgRead
import Derived.Deep.DeepCutAuto
import Derived.Deep.LoopGhost
import Derived.Deep.Light
import Derived.Deep.QuietTactic
import Derived.BigQuiet
namespace Go.Proofs.YtpmnpnlfgfleeaaGreatDoor
open Go.RowKit

theorem below_drewN {B : Nat} {a w : World} (h : Below B a w) (n : Nat) : Below B a (w.drewN n) := ⟨h.os, h.tape, h.output, h.size, h.block⟩
theorem nm_of {n c : Nat} (h1 : n ≤ c) (h2 : c ≤ 9223372036854775807) : n ≤ 9223372036854775807 := by omega

set_option maxRecDepth 100000 in
set_option maxHeartbeats 4000000 in
theorem rCheck_any (v : Value) (x : Lx.Lexicon) (w : World) (hr : RdL w w.heap.size v x) :
    Calls Tryz.prog 26 #[v] w (fun e w' => e = .returned (.int .i64 (Lx.checkV x)) ∧ Below w.heap.size w w') := by
  obtain ⟨⟨v0, v1, v2, rfl, ⟨A0, c0, rfl, hl0, hm0, hc0⟩, ⟨A1, c1, rfl, hl1, hm1, hc1⟩, ⟨A2, c2, rfl, hl2, hm2, hc2⟩⟩, fe, fn, fc⟩ := hr
  have hn0 := nm_of hl0 hm0
  have hn1 := nm_of hl1 hm1
  have hn2 := nm_of hl2 hm2
  have HC0 := Lib.hid hc0
  have HC1 := Lib.hid hc1
  have HC2 := Lib.hid hc2
  have FE := Lib.hid fe
  have FN := Lib.hid fn
  have FC := Lib.hid fc
  clear hc0 hc1 hc2 fe fn fc hm0 hm1 hm2
  cases htm : Lx.tooMany x
  · have ht : ¬ (200 < x.entries.length) ∧ ¬ (40 < x.endings.length) ∧ ¬ (10 < x.clitics.length) := by
      simp [Lx.tooMany] at htm; omega
    obtain ⟨ht0, ht1, ht2⟩ := ht
    have HTM := Lib.hid htm
    clear htm
    go_enter Tryz.func26, Tryz.ntmps26
    go_wp2_with fail
    go_loopg [3] x.entries.length (fun g i wr => ∃ k : Nat, k ≤ x.entries.length ∧ g = x.entries.length - k ∧ i = .int .i64 k ∧ Below (w.heap.size + 1) (w.alloc (.cells #[.slice A0 x.entries.length c0, .slice A1 x.endings.length c1, .slice A2 x.clitics.length c2] 26)) wr ∧
      ∀ j, j < k → Lx.okAt Lx.Entry.ok Lx.Entry.same x.entries j = true)
    case atStart => exact ⟨0, Nat.zero_le _, rfl, rfl, Below.refl _ _, fun j hj => absurd hj (Nat.not_lt_zero j)⟩
    case round =>
      obtain ⟨k, hk, rfl, rfl, hbel, hgood⟩ := hrel
      have HG := Lib.hid hgood
      have HB := Lib.hid hbel
      have HBW := Lib.hid (((Below.refl w.heap.size w).alloc (Nat.le_refl _) _).trans (hbel.mono (Nat.le_succ _)))
      have hsz : w.heap.size < wr.heap.size := by have := hbel.size; simp at this; omega
      have hx0 : wr.cell? ⟨w.heap.size, 0, none⟩ = some (.slice A0 x.entries.length c0) := by rw [hbel.cell (by simp)]; simp
      have hx1 : wr.cell? ⟨w.heap.size, 1, none⟩ = some (.slice A1 x.endings.length c1) := by rw [hbel.cell (by simp)]; simp
      have hx2 : wr.cell? ⟨w.heap.size, 2, none⟩ = some (.slice A2 x.clitics.length c2) := by rw [hbel.cell (by simp)]; simp
      have HW : Hid (∀ q : Addr, q.block < w.heap.size → wr.cell? q = w.cell? q) := Lib.hid fun q hq => HBW.out.cell hq
      clear hgood hbel
      by_cases hlt : k < x.entries.length
      · obtain ⟨b, off, rfl, hb, hcell⟩ := HC0.out (by omega)
        obtain ⟨e, he⟩ : ∃ e, x.entries[k]? = some e := ⟨_, List.getElem?_eq_getElem hlt⟩
        have f0 : wr.cell? ⟨b, off + k * 4, none⟩ = some (.string e.root) := (HW.out _ hb).trans (hcell k e he 0 _ rfl)
        have f1 : wr.cell? ⟨b, off + k * 4 + 1, none⟩ = some (.int .i64 e.kind) := (HW.out _ hb).trans (hcell k e he 1 _ rfl)
        have f2 : wr.cell? ⟨b, off + k * 4 + 2, none⟩ = some (.string e.cls) := (HW.out _ hb).trans (hcell k e he 2 _ rfl)
        have f3 : wr.cell? ⟨b, off + k * 4 + 3, none⟩ = some (.int .i64 e.weight) := (HW.out _ hb).trans (hcell k e he 3 _ rfl)
        have HCELL := Lib.hid hcell
        have hfe := FE.out e (List.mem_of_getElem? he)
        have hf1 := hfe.1
        have hf2 := hfe.2
        have HE := Lib.hid he
        clear he hcell hfe
        go_upto_region 7 with fail
        go_cut [67] (fun t wc => t = .bool (!Lx.Entry.ok e) ∧ wc = wr.alloc (.cells #[.string e.root, .int .i64 e.kind, .string e.cls, .int .i64 e.weight] 57))
        case first =>
          go_wp2_with (first
            | (go_at_call 58; refine (rsounds_any _ _ _ (by assumption)).mono ?_; rintro e w' ⟨rfl, rfl⟩)
            | (go_at_call 59; refine (rkind_any _ _).mono ?_; rintro e w' ⟨rfl, rfl⟩)
            | (go_at_call 61; refine (rweight_any _ _).mono ?_; rintro e w' ⟨rfl, rfl⟩)
            | (go_at_call 60; refine (rname_any _ _ (by assumption)).mono ?_; rintro e w' ⟨rfl, rfl⟩))
          all_goals
            go_meet
            go_light
            refine ⟨?_, rfl⟩
            clear HB HBW HG HC0 HC1 HC2 FE FN FC HW HCELL HE
            simp [Lx.Entry.ok, *]
        case rest =>
          obtain ⟨rfl, rfl⟩ := hcut
          cases hok : Lx.Entry.ok e
          · have HF := Lib.hid (Lx.not_good_of (Lx.okAt_bad (same := Lx.Entry.same) HE.out hok))
            clear hok
            go_wp2_with fail
            go_ret
            exact ⟨ret_int (Lx.checkV_45 HTM.out HF.out).symm, HBW.out.alloc (by omega) _⟩
          · have HOK := Lib.hid hok
            clear hok
            go_wp2_with fail
            go_loopg [5] k (fun g i wq => ∃ q : Nat, q ≤ k ∧ g = k - q ∧ i = .int .i64 q ∧ Below (wr.heap.size + 1) (wr.alloc (.cells #[.string e.root, .int .i64 e.kind, .string e.cls, .int .i64 e.weight] 57)) wq ∧
              ∀ j y, j < q → x.entries[j]? = some y → Lx.Entry.same y e = false)
            case atStart => exact ⟨0, Nat.zero_le _, rfl, rfl, Below.refl _ _, fun j _ hj => absurd hj (Nat.not_lt_zero j)⟩
            case round =>
              rename World => wq
              obtain ⟨q, hq, rfl, rfl, hbel, hdup⟩ := hrel
              have HD := Lib.hid hdup
              have HBQ := Lib.hid hbel
              have e0 : wq.cell? ⟨wr.heap.size, 0, none⟩ = some (.string e.root) := by rw [hbel.cell (by simp)]; simp
              have e1 : wq.cell? ⟨wr.heap.size, 1, none⟩ = some (.int .i64 e.kind) := by rw [hbel.cell (by simp)]; simp
              have e2 : wq.cell? ⟨wr.heap.size, 2, none⟩ = some (.string e.cls) := by rw [hbel.cell (by simp)]; simp
              have hszq : wr.heap.size < wq.heap.size := by have := hbel.size; simp at this; omega
              have hszq' : w.heap.size < wq.heap.size := by omega
              have hbq := ((Below.refl wr.heap.size wr).alloc (Nat.le_refl _) _).trans (hbel.mono (Nat.le_succ _))
              have HBQW := Lib.hid (HBW.out.trans (hbq.mono (by omega : w.heap.size ≤ wr.heap.size)))
              have HBQR := Lib.hid hbq
              have hx0' : wq.cell? ⟨w.heap.size, 0, none⟩ = some (.slice (some ⟨b, off, none⟩) x.entries.length c0) := (hbq.cell (by show w.heap.size < wr.heap.size; omega)).trans hx0
              clear hdup hbel hbq
              clear f0 f1 f2 f3 hx1 hx2 hx0
              by_cases hqk : q < k
              · obtain ⟨y, hy⟩ : ∃ y, x.entries[q]? = some y := ⟨_, List.getElem?_eq_getElem (by omega)⟩
                have g0 : wq.cell? ⟨b, off + q * 4, none⟩ = some (.string y.root) := (HBQW.out.cell hb).trans (HCELL.out q y hy 0 _ rfl)
                have g1 : wq.cell? ⟨b, off + q * 4 + 1, none⟩ = some (.int .i64 y.kind) := (HBQW.out.cell hb).trans (HCELL.out q y hy 1 _ rfl)
                have g2 : wq.cell? ⟨b, off + q * 4 + 2, none⟩ = some (.string y.cls) := (HBQW.out.cell hb).trans (HCELL.out q y hy 2 _ rfl)
                have g3 : wq.cell? ⟨b, off + q * 4 + 3, none⟩ = some (.int .i64 y.weight) := (HBQW.out.cell hb).trans (HCELL.out q y hy 3 _ rfl)
                have HY := Lib.hid hy
                clear hy
                go_upto_region 13 with fail
                go_cut [96] (fun t wc => t = .bool (Lx.Entry.same y e) ∧ ∃ o, wc = wq.alloc o)
                case first =>
                  go_wp2_with fail
                  all_goals
                    go_meet
                    go_light
                    refine ⟨?_, _, rfl⟩
                    clear HB HBW HG HC0 HC1 HC2 FE FN FC HW HCELL HE HOK HD HBQ HBQW HBQR HY
                    first | (simp [Lx.Entry.same, *]; done) | (simp [Lx.Entry.same, *]; rw [Bool.eq_iff_iff]; simp)
                case rest =>
                  obtain ⟨rfl, o, rfl⟩ := hcut
                  cases hsm : Lx.Entry.same y e
                  · have HD2 : Hid (∀ j y, j < q + 1 → x.entries[j]? = some y → Lx.Entry.same y e = false) := by
                      refine Lib.hid (fun j z hj hz => ?_)
                      by_cases hjq : j = q
                      · subst hjq
                        rw [HY.out] at hz
                        cases hz
                        exact hsm
                      · exact HD.out j z (by omega) hz
                    clear hsm
                    go_wp2_with fail
                    go_roundg (k - (q + 1))
                    case measure => omega
                    case rel => exact ⟨q + 1, by omega, rfl, by go_num, HBQ.out.alloc (by omega) _, HD2.out⟩
                  · have HF := Lib.hid (Lx.not_good_of (Lx.okAt_dup (ok := Lx.Entry.ok) HE.out hqk HY.out hsm))
                    clear hsm
                    go_wp2_with fail
                    go_ret
                    exact ⟨ret_int (Lx.checkV_45 HTM.out HF.out).symm, HBQW.out.alloc (by omega) _⟩
              · have HD2 : Hid (∀ j, j < k + 1 → Lx.okAt Lx.Entry.ok Lx.Entry.same x.entries j = true) :=
                  Lib.hid (Lx.to_succ HG.out (Lx.okAt_good HE.out HOK.out fun j y hj hy => HD.out j y (by omega) hy))
                go_wp2_with fail
                go_roundg (x.entries.length - (k + 1))
                case measure => omega
                case rel => exact ⟨k + 1, by omega, rfl, by go_num, HB.out.trans ((HBQR.out.mono (by omega))), HD2.out⟩
      · have HG1 : Hid (Lx.good Lx.Entry.ok Lx.Entry.same x.entries = true) := Lib.hid (Lx.good_of fun j hj => HG.out j (by omega))
        clear HG HC0 FE
        go_wp2_with fail
        go_loopg [7] x.endings.length (fun g i wr => ∃ k : Nat, k ≤ x.endings.length ∧ g = x.endings.length - k ∧ i = .int .i64 k ∧ Below (w.heap.size + 1) (w.alloc (.cells #[.slice A0 x.entries.length c0, .slice A1 x.endings.length c1, .slice A2 x.clitics.length c2] 26)) wr ∧
          ∀ j, j < k → Lx.okAt Lx.Ending.ok Lx.Ending.same x.endings j = true)
        case atStart => exact ⟨0, Nat.zero_le _, rfl, rfl, HB.out, fun j hj => absurd hj (Nat.not_lt_zero j)⟩
        case round =>
          clear HB HBW HW hsz hx1 hx2
          rename World => wr
          obtain ⟨k, hk, rfl, rfl, hbel, hgood⟩ := hrel
          have HG := Lib.hid hgood
          have HB := Lib.hid hbel
          have HBW := Lib.hid (((Below.refl w.heap.size w).alloc (Nat.le_refl _) _).trans (hbel.mono (Nat.le_succ _)))
          have hsz : w.heap.size < wr.heap.size := by have := hbel.size; simp at this; omega
          have hx1 : wr.cell? ⟨w.heap.size, 1, none⟩ = some (.slice A1 x.endings.length c1) := by rw [hbel.cell (by simp)]; simp
          have hx2 : wr.cell? ⟨w.heap.size, 2, none⟩ = some (.slice A2 x.clitics.length c2) := by rw [hbel.cell (by simp)]; simp
          have HW : Hid (∀ q : Addr, q.block < w.heap.size → wr.cell? q = w.cell? q) := Lib.hid fun q hq => HBW.out.cell hq
          clear hgood hbel
          by_cases hlt : k < x.endings.length
          · obtain ⟨b, off, rfl, hb, hcell⟩ := HC1.out (by omega)
            obtain ⟨e, he⟩ : ∃ e, x.endings[k]? = some e := ⟨_, List.getElem?_eq_getElem hlt⟩
            have f0 : wr.cell? ⟨b, off + k * 4, none⟩ = some (.int .i64 e.kind) := (HW.out _ hb).trans (hcell k e he 0 _ rfl)
            have f1 : wr.cell? ⟨b, off + k * 4 + 1, none⟩ = some (.string e.text) := (HW.out _ hb).trans (hcell k e he 1 _ rfl)
            have f2 : wr.cell? ⟨b, off + k * 4 + 2, none⟩ = some (.string e.name) := (HW.out _ hb).trans (hcell k e he 2 _ rfl)
            have f3 : wr.cell? ⟨b, off + k * 4 + 3, none⟩ = some (.int .i64 e.weight) := (HW.out _ hb).trans (hcell k e he 3 _ rfl)
            have HCELL := Lib.hid hcell
            have hfe := FN.out e (List.mem_of_getElem? he)
            have hf1 := hfe.1
            have hf2 := hfe.2
            have HE := Lib.hid he
            clear he hcell hfe
            go_upto_region 19 with fail
            go_cut [130] (fun t wc => t = .bool (!Lx.Ending.ok e) ∧ wc = wr.alloc (.cells #[.int .i64 e.kind, .string e.text, .string e.name, .int .i64 e.weight] 55))
            case first =>
              go_wp2_with (first
                | (go_at_call 58; refine (rsounds_any _ _ _ (by assumption)).mono ?_; rintro e w' ⟨rfl, rfl⟩)
                | (go_at_call 59; refine (rkind_any _ _).mono ?_; rintro e w' ⟨rfl, rfl⟩)
                | (go_at_call 61; refine (rweight_any _ _).mono ?_; rintro e w' ⟨rfl, rfl⟩)
                | (go_at_call 60; refine (rname_any _ _ (by assumption)).mono ?_; rintro e w' ⟨rfl, rfl⟩))
              all_goals
                go_meet
                go_light
                refine ⟨?_, rfl⟩
                clear HB HBW HG HC1 HC2 FN FC HW HCELL HE
                simp [Lx.Ending.ok, *]
            case rest =>
              obtain ⟨rfl, rfl⟩ := hcut
              cases hok : Lx.Ending.ok e
              · have HF := Lib.hid (Lx.not_good_of (Lx.okAt_bad (same := Lx.Ending.same) HE.out hok))
                clear hok
                go_wp2_with fail
                go_ret
                exact ⟨ret_int (Lx.checkV_46 HTM.out HG1.out HF.out).symm, HBW.out.alloc (by omega) _⟩
              · have HOK := Lib.hid hok
                clear hok
                go_wp2_with fail
                go_loopg [9] k (fun g i wq => ∃ q : Nat, q ≤ k ∧ g = k - q ∧ i = .int .i64 q ∧ Below (wr.heap.size + 1) (wr.alloc (.cells #[.int .i64 e.kind, .string e.text, .string e.name, .int .i64 e.weight] 55)) wq ∧
                  ∀ j y, j < q → x.endings[j]? = some y → Lx.Ending.same y e = false)
                case atStart => exact ⟨0, Nat.zero_le _, rfl, rfl, Below.refl _ _, fun j _ hj => absurd hj (Nat.not_lt_zero j)⟩
                case round =>
                  rename World => wq
                  obtain ⟨q, hq, rfl, rfl, hbel, hdup⟩ := hrel
                  have HD := Lib.hid hdup
                  have HBQ := Lib.hid hbel
                  have e0 : wq.cell? ⟨wr.heap.size, 0, none⟩ = some (.int .i64 e.kind) := by rw [hbel.cell (by simp)]; simp
                  have e2 : wq.cell? ⟨wr.heap.size, 2, none⟩ = some (.string e.name) := by rw [hbel.cell (by simp)]; simp
                  have hszq : wr.heap.size < wq.heap.size := by have := hbel.size; simp at this; omega
                  have hszq' : w.heap.size < wq.heap.size := by omega
                  have hbq := ((Below.refl wr.heap.size wr).alloc (Nat.le_refl _) _).trans (hbel.mono (Nat.le_succ _))
                  have HBQW := Lib.hid (HBW.out.trans (hbq.mono (by omega : w.heap.size ≤ wr.heap.size)))
                  have HBQR := Lib.hid hbq
                  have hx0' : wq.cell? ⟨w.heap.size, 1, none⟩ = some (.slice (some ⟨b, off, none⟩) x.endings.length c1) := (hbq.cell (by show w.heap.size < wr.heap.size; omega)).trans hx1
                  clear hdup hbel hbq
                  clear f0 f1 f2 f3 hx1 hx2
                  by_cases hqk : q < k
                  · obtain ⟨y, hy⟩ : ∃ y, x.endings[q]? = some y := ⟨_, List.getElem?_eq_getElem (by omega)⟩
                    have g0 : wq.cell? ⟨b, off + q * 4, none⟩ = some (.int .i64 y.kind) := (HBQW.out.cell hb).trans (HCELL.out q y hy 0 _ rfl)
                    have g2 : wq.cell? ⟨b, off + q * 4 + 2, none⟩ = some (.string y.name) := (HBQW.out.cell hb).trans (HCELL.out q y hy 2 _ rfl)
                    have hqI : (0 : Int) ≤ (q : Int) := by omega
                    have hqJ : (q : Int) < (x.endings.length : Int) := by omega
                    have HY := Lib.hid hy
                    clear hy
                    go_upto_region 24 with fail
                    go_cut [155] (fun t wc => t = .bool (Lx.Ending.same y e) ∧ ∃ n, wc = wq.drewN n)
                    case first =>
                      by_cases hkk : y.kind = e.kind
                      · have hd : (y.kind == e.kind) = true := by simp [hkk]
                        have HKK := Lib.hid hkk
                        clear hkk
                        go_quiet (fail)
                        all_goals go_wp2_with fail
                        all_goals
                          go_meet
                          go_light
                          refine ⟨?_, _, rfl⟩
                          rw [Lx.Ending.same, HKK.out]
                          simp
                          try (rw [Bool.eq_iff_iff]; simp)
                      · have hd : (y.kind == e.kind) = false := by simp [hkk]
                        have HKK := Lib.hid hkk
                        clear hkk
                        go_quiet (fail)
                        all_goals go_wp2_with fail
                        all_goals
                          go_meet
                          go_light
                          refine ⟨?_, _, rfl⟩
                          simp [Lx.Ending.same, HKK.out]
                    case rest =>
                      obtain ⟨rfl, o, rfl⟩ := hcut
                      cases hsm : Lx.Ending.same y e
                      · have HD2 : Hid (∀ j y, j < q + 1 → x.endings[j]? = some y → Lx.Ending.same y e = false) := by
                          refine Lib.hid (fun j z hj hz => ?_)
                          by_cases hjq : j = q
                          · subst hjq
                            rw [HY.out] at hz
                            cases hz
                            exact hsm
                          · exact HD.out j z (by omega) hz
                        clear hsm
                        go_wp2_with fail
                        go_roundg (k - (q + 1))
                        case measure => omega
                        case rel => exact ⟨q + 1, by omega, rfl, by go_num, below_drewN HBQ.out _, HD2.out⟩
                      · have HF := Lib.hid (Lx.not_good_of (Lx.okAt_dup (ok := Lx.Ending.ok) HE.out hqk HY.out hsm))
                        clear hsm
                        go_wp2_with fail
                        go_ret
                        exact ⟨ret_int (Lx.checkV_46 HTM.out HG1.out HF.out).symm, below_drewN HBQW.out _⟩
                  · have HD2 : Hid (∀ j, j < k + 1 → Lx.okAt Lx.Ending.ok Lx.Ending.same x.endings j = true) :=
                      Lib.hid (Lx.to_succ HG.out (Lx.okAt_good HE.out HOK.out fun j y hj hy => HD.out j y (by omega) hy))
                    go_wp2_with fail
                    go_roundg (x.endings.length - (k + 1))
                    case measure => omega
                    case rel => exact ⟨k + 1, by omega, rfl, by go_num, HB.out.trans ((HBQR.out.mono (by omega))), HD2.out⟩
          · have HG2 : Hid (Lx.good Lx.Ending.ok Lx.Ending.same x.endings = true) := Lib.hid (Lx.good_of fun j hj => HG.out j (by omega))
            clear HG HC1 FN
            go_wp2_with fail
            go_loopg [10] x.clitics.length (fun g i wr => ∃ k : Nat, k ≤ x.clitics.length ∧ g = x.clitics.length - k ∧ i = .int .i64 k ∧ Below (w.heap.size + 1) (w.alloc (.cells #[.slice A0 x.entries.length c0, .slice A1 x.endings.length c1, .slice A2 x.clitics.length c2] 26)) wr ∧
              ∀ j, j < k → Lx.okAt Lx.Clitic.ok Lx.Clitic.same x.clitics j = true)
            case atStart => exact ⟨0, Nat.zero_le _, rfl, rfl, HB.out, fun j hj => absurd hj (Nat.not_lt_zero j)⟩
            case round =>
              clear HB HBW HW hsz hx2
              rename World => wr
              obtain ⟨k, hk, rfl, rfl, hbel, hgood⟩ := hrel
              have HG := Lib.hid hgood
              have HB := Lib.hid hbel
              have HBW := Lib.hid (((Below.refl w.heap.size w).alloc (Nat.le_refl _) _).trans (hbel.mono (Nat.le_succ _)))
              have hsz : w.heap.size < wr.heap.size := by have := hbel.size; simp at this; omega
              have hx2 : wr.cell? ⟨w.heap.size, 2, none⟩ = some (.slice A2 x.clitics.length c2) := by rw [hbel.cell (by simp)]; simp
              have HW : Hid (∀ q : Addr, q.block < w.heap.size → wr.cell? q = w.cell? q) := Lib.hid fun q hq => HBW.out.cell hq
              clear hgood hbel
              by_cases hlt : k < x.clitics.length
              · obtain ⟨b, off, rfl, hb, hcell⟩ := HC2.out (by omega)
                obtain ⟨e, he⟩ : ∃ e, x.clitics[k]? = some e := ⟨_, List.getElem?_eq_getElem hlt⟩
                have f0 : wr.cell? ⟨b, off + k * 3, none⟩ = some (.string e.text) := (HW.out _ hb).trans (hcell k e he 0 _ rfl)
                have f1 : wr.cell? ⟨b, off + k * 3 + 1, none⟩ = some (.string e.name) := (HW.out _ hb).trans (hcell k e he 1 _ rfl)
                have f2 : wr.cell? ⟨b, off + k * 3 + 2, none⟩ = some (.int .i64 e.weight) := (HW.out _ hb).trans (hcell k e he 2 _ rfl)
                have HCELL := Lib.hid hcell
                have hfe := FC.out e (List.mem_of_getElem? he)
                have hf1 := hfe.1
                have hf2 := hfe.2
                have HE := Lib.hid he
                clear he hcell hfe
                go_upto_region 30 with fail
                go_cut [183] (fun t wc => t = .bool (!Lx.Clitic.ok e) ∧ wc = wr.alloc (.cells #[.string e.text, .string e.name, .int .i64 e.weight] 65))
                case first =>
                  go_wp2_with (first
                    | (go_at_call 58; refine (rsounds_any _ _ _ (by assumption)).mono ?_; rintro e w' ⟨rfl, rfl⟩)
                    | (go_at_call 59; refine (rkind_any _ _).mono ?_; rintro e w' ⟨rfl, rfl⟩)
                    | (go_at_call 61; refine (rweight_any _ _).mono ?_; rintro e w' ⟨rfl, rfl⟩)
                    | (go_at_call 60; refine (rname_any _ _ (by assumption)).mono ?_; rintro e w' ⟨rfl, rfl⟩))
                  all_goals
                    go_meet
                    go_light
                    refine ⟨?_, rfl⟩
                    clear HB HBW HG HC2 FC HW HCELL HE
                    simp [Lx.Clitic.ok, *]
                case rest =>
                  obtain ⟨rfl, rfl⟩ := hcut
                  cases hok : Lx.Clitic.ok e
                  · have HF := Lib.hid (Lx.not_good_of (Lx.okAt_bad (same := Lx.Clitic.same) HE.out hok))
                    clear hok
                    go_wp2_with fail
                    go_ret
                    exact ⟨ret_int (Lx.checkV_47 HTM.out HG1.out HG2.out HF.out).symm, HBW.out.alloc (by omega) _⟩
                  · have HOK := Lib.hid hok
                    clear hok
                    go_wp2_with fail
                    go_loopg [12] k (fun g i wq => ∃ q : Nat, q ≤ k ∧ g = k - q ∧ i = .int .i64 q ∧ Below (wr.heap.size + 1) (wr.alloc (.cells #[.string e.text, .string e.name, .int .i64 e.weight] 65)) wq ∧
                      ∀ j y, j < q → x.clitics[j]? = some y → Lx.Clitic.same y e = false)
                    case atStart => exact ⟨0, Nat.zero_le _, rfl, rfl, Below.refl _ _, fun j _ hj => absurd hj (Nat.not_lt_zero j)⟩
                    case round =>
                      rename World => wq
                      obtain ⟨q, hq, rfl, rfl, hbel, hdup⟩ := hrel
                      have HD := Lib.hid hdup
                      have HBQ := Lib.hid hbel
                      have e1 : wq.cell? ⟨wr.heap.size, 1, none⟩ = some (.string e.name) := by rw [hbel.cell (by simp)]; simp
                      have hszq : wr.heap.size < wq.heap.size := by have := hbel.size; simp at this; omega
                      have hszq' : w.heap.size < wq.heap.size := by omega
                      have hbq := ((Below.refl wr.heap.size wr).alloc (Nat.le_refl _) _).trans (hbel.mono (Nat.le_succ _))
                      have HBQW := Lib.hid (HBW.out.trans (hbq.mono (by omega : w.heap.size ≤ wr.heap.size)))
                      have HBQR := Lib.hid hbq
                      have hx0' : wq.cell? ⟨w.heap.size, 2, none⟩ = some (.slice (some ⟨b, off, none⟩) x.clitics.length c2) := (hbq.cell (by show w.heap.size < wr.heap.size; omega)).trans hx2
                      clear hdup hbel hbq
                      clear f0 f1 f2 hx2
                      by_cases hqk : q < k
                      · obtain ⟨y, hy⟩ : ∃ y, x.clitics[q]? = some y := ⟨_, List.getElem?_eq_getElem (by omega)⟩
                        have g1 : wq.cell? ⟨b, off + q * 3 + 1, none⟩ = some (.string y.name) := (HBQW.out.cell hb).trans (HCELL.out q y hy 1 _ rfl)
                        have hqI : (0 : Int) ≤ (q : Int) := by omega
                        have hqJ : (q : Int) < (x.clitics.length : Int) := by omega
                        have HY := Lib.hid hy
                        clear hy
                        go_upto_region 35 with fail
                        go_cut [197] (fun t wc => t = .bool (Lx.Clitic.same y e) ∧ ∃ n, wc = wq.drewN n)
                        case first =>
                          go_quiet (fail)
                          all_goals go_wp2_with fail
                          all_goals
                            go_meet
                            go_light
                            refine ⟨?_, _, rfl⟩
                            rw [Lx.Clitic.same]
                            simp
                            try (rw [Bool.eq_iff_iff]; simp)
                        case rest =>
                          obtain ⟨rfl, o, rfl⟩ := hcut
                          cases hsm : Lx.Clitic.same y e
                          · have HD2 : Hid (∀ j y, j < q + 1 → x.clitics[j]? = some y → Lx.Clitic.same y e = false) := by
                              refine Lib.hid (fun j z hj hz => ?_)
                              by_cases hjq : j = q
                              · subst hjq
                                rw [HY.out] at hz
                                cases hz
                                exact hsm
                              · exact HD.out j z (by omega) hz
                            clear hsm
                            go_wp2_with fail
                            go_roundg (k - (q + 1))
                            case measure => omega
                            case rel => exact ⟨q + 1, by omega, rfl, by go_num, below_drewN HBQ.out _, HD2.out⟩
                          · have HF := Lib.hid (Lx.not_good_of (Lx.okAt_dup (ok := Lx.Clitic.ok) HE.out hqk HY.out hsm))
                            clear hsm
                            go_wp2_with fail
                            go_ret
                            exact ⟨ret_int (Lx.checkV_47 HTM.out HG1.out HG2.out HF.out).symm, below_drewN HBQW.out _⟩
                      · have HD2 : Hid (∀ j, j < k + 1 → Lx.okAt Lx.Clitic.ok Lx.Clitic.same x.clitics j = true) :=
                          Lib.hid (Lx.to_succ HG.out (Lx.okAt_good HE.out HOK.out fun j y hj hy => HD.out j y (by omega) hy))
                        go_wp2_with fail
                        go_roundg (x.clitics.length - (k + 1))
                        case measure => omega
                        case rel => exact ⟨k + 1, by omega, rfl, by go_num, HB.out.trans ((HBQR.out.mono (by omega))), HD2.out⟩
              · have HG3 : Hid (Lx.good Lx.Clitic.ok Lx.Clitic.same x.clitics = true) := Lib.hid (Lx.good_of fun j hj => HG.out j (by omega))
                go_wp2_with fail
                go_ret
                exact ⟨ret_int (Lx.checkV_0 HTM.out HG1.out HG2.out HG3.out).symm, HBW.out⟩
  · have htm' : (200 < x.entries.length) ∨ (40 < x.endings.length) ∨ (10 < x.clitics.length) := by
      simp [Lx.tooMany] at htm; omega
    have HF := Lib.hid (Lx.checkV_2 htm)
    clear htm
    go_enter Tryz.func26, Tryz.ntmps26
    go_wp2_with fail
    all_goals first
      | (exfalso; simp at *; omega)
      | skip
    all_goals go_ret
    all_goals exact ⟨ret_int HF.out.symm, (Below.refl _ _).alloc (Nat.le_refl _) _⟩
end Go.Proofs.YtpmnpnlfgfleeaaGreatDoor
