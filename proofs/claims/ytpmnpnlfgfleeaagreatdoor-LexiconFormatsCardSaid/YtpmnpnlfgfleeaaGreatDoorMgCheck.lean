/- The program's Check. Made by gen_check.py. -/
import Derived.Test.YtpmnpnlfgfleeaaGreatDoorMgLeaf
import Derived.Test.YtpmnpnlfgfleeaaGreatDoorMgRead
import Derived.Test.YtpmnpnlfgfleeaaGreatDoorMgClos
import Derived.Deep.DeepCutAuto
import Derived.Deep.LoopGhost
import Derived.Deep.Light
import Derived.Deep.QuietTactic
import Derived.BigQuiet
namespace Go.Proofs.YtpmnpnlfgfleeaaGreatDoor
open Go.RowKit

set_option maxRecDepth 100000 in
set_option maxHeartbeats 4000000 in
theorem Check_any (v : Value) (x : Lx.Lexicon) (w : World) (hr : RdL w w.heap.size v x) :
    Calls Tryz.prog 33 #[v] w (fun e w' => e = .returned (.int .i64 (Lx.checkV x)) ∧ Below w.heap.size w w') := by
  obtain ⟨⟨v0, v1, v2, rfl, hr0, hr1, hr2⟩, fe, fn, fc⟩ := hr
  have HR0 := Lib.hid hr0
  have HR1 := Lib.hid hr1
  have HR2 := Lib.hid hr2
  obtain ⟨A0, c0, rfl, hl0, hm0, hc0⟩ := hr0
  obtain ⟨A1, c1, rfl, hl1, hm1, hc1⟩ := hr1
  obtain ⟨A2, c2, rfl, hl2, hm2, hc2⟩ := hr2
  have hn0 : x.entries.length ≤ 9223372036854775807 := by omega
  have hn1 : x.endings.length ≤ 9223372036854775807 := by omega
  have hn2 : x.clitics.length ≤ 9223372036854775807 := by omega
  have HC0 := Lib.hid hc0
  have HC1 := Lib.hid hc1
  have HC2 := Lib.hid hc2
  have FE := Lib.hid fe
  have FN := Lib.hid fn
  have FC := Lib.hid fc
  clear hc0 hc1 hc2 fe fn fc hm0 hm1 hm2
  cases htm : Lx.tooMany x
  · have ht : ¬ (200 < x.entries.length) ∧ ¬ (40 < x.endings.length) ∧ ¬ (10 < x.clitics.length) := by
      simp [Lx.tooMany] at htm; omega
    obtain ⟨ht0, ht1, ht2⟩ := ht
    have HTM := Lib.hid htm
    clear htm
    go_enter Tryz.func33, Tryz.ntmps33
    go_wp2_with fail
    go_loopg [31] x.entries.length (fun g i wr => ∃ k : Nat, k ≤ x.entries.length ∧ g = x.entries.length - k ∧ i = .int .i64 k ∧ Below (w.heap.size + 1) (w.alloc (.cells #[.slice A0 x.entries.length c0, .slice A1 x.endings.length c1, .slice A2 x.clitics.length c2] 26)) wr ∧
      ∀ j, j < k → Lx.okAt Lx.Entry.ok Lx.Entry.same x.entries j = true)
    case atStart => exact ⟨0, Nat.zero_le _, rfl, rfl, Below.refl _ _, fun j hj => absurd hj (Nat.not_lt_zero j)⟩
    case round =>
      obtain ⟨k, hk, rfl, rfl, hbel, hgood⟩ := hrel
      have HG := Lib.hid hgood
      have HB := Lib.hid hbel
      have HBW := Lib.hid (((Below.refl w.heap.size w).alloc (Nat.le_refl _) _).trans (hbel.mono (Nat.le_succ _)))
      have hsz : w.heap.size < wr.heap.size := by have := hbel.size; simp at this; omega
      have hsz2 : w.heap.size < wr.heap.size + 1 := by omega
      have hx0 : wr.cell? ⟨w.heap.size, 0, none⟩ = some (.slice A0 x.entries.length c0) := by rw [hbel.cell (by simp)]; simp
      have hx1 : wr.cell? ⟨w.heap.size, 1, none⟩ = some (.slice A1 x.endings.length c1) := by rw [hbel.cell (by simp)]; simp
      have hx2 : wr.cell? ⟨w.heap.size, 2, none⟩ = some (.slice A2 x.clitics.length c2) := by rw [hbel.cell (by simp)]; simp
      clear hgood hbel
      by_cases hlt : k < x.entries.length
      · obtain ⟨b, off, rfl, hb, hcell⟩ := HC0.out (by omega)
        obtain ⟨e, he⟩ : ∃ e, x.entries[k]? = some e := ⟨_, List.getElem?_eq_getElem hlt⟩
        have f0 : wr.cell? ⟨b, off + k * 4, none⟩ = some (.string e.root) := (HBW.out.cell hb).trans (hcell k e he 0 _ rfl)
        have f1 : wr.cell? ⟨b, off + k * 4 + 1, none⟩ = some (.int .i64 e.kind) := (HBW.out.cell hb).trans (hcell k e he 1 _ rfl)
        have f2 : wr.cell? ⟨b, off + k * 4 + 2, none⟩ = some (.string e.cls) := (HBW.out.cell hb).trans (hcell k e he 2 _ rfl)
        have f3 : wr.cell? ⟨b, off + k * 4 + 3, none⟩ = some (.int .i64 e.weight) := (HBW.out.cell hb).trans (hcell k e he 3 _ rfl)
        have hfe := FE.out e (List.mem_of_getElem? he)
        have hf1 := hfe.1
        have hf2 := hfe.2
        have HOA : Hid (Lx.okAt Lx.Entry.ok Lx.Entry.same x.entries k = (Lx.Entry.ok e && !((x.entries.take k).any fun y => Lx.Entry.same y e))) := Lib.hid (by simp [Lx.okAt, he])
        have hkI : (0 : Int) ≤ (k : Int) := by omega
        have hkJ : (k : Int) ≤ (c0 : Int) := by omega
        clear he hcell hfe
        go_upto_region 7 with fail
        have HBc := Lib.hid (Below.refl (wr.alloc (.cells #[.string e.root, .int .i64 e.kind, .string e.cls, .int .i64 e.weight] 57)).heap.size (wr.alloc (.cells #[.string e.root, .int .i64 e.kind, .string e.cls, .int .i64 e.weight] 57)))
        have HBA := Lib.hid (HBW.out.alloc (by omega : w.heap.size ≤ wr.heap.size) (.cells #[.string e.root, .int .i64 e.kind, .string e.cls, .int .i64 e.weight] 57))
        go_cut [71] (fun t wc => t = .bool (!Lx.okAt Lx.Entry.ok Lx.Entry.same x.entries k) ∧ Below wr.heap.size wr wc)
        case first =>
          go_wp2_with (first
            | (go_at_call 69; refine (sounds_any _ _ _ (by assumption)).mono ?_; rintro e1 w1 ⟨rfl, hb1⟩; have HBc := Lib.hid (HBc.out.trans (hb1.mono HBc.out.size)); have HBA := Lib.hid (HBA.out.trans (hb1.mono HBA.out.size)); obtain ⟨hc1, hf1'⟩ := bcell hb1; have hz1 : wr.heap.size < w1.heap.size := (by have := HBc.out.size; simp at this; omega); have hz1' : w.heap.size < w1.heap.size := (by omega); clear hb1 hf1')
            | (go_at_call 70; refine (named_any _ _ (by assumption)).mono ?_; rintro e2 w2 ⟨rfl, hb2⟩; have HBc := Lib.hid (HBc.out.trans (hb2.mono HBc.out.size)); have HBA := Lib.hid (HBA.out.trans (hb2.mono HBA.out.size)); obtain ⟨hc2, hf2'⟩ := bcell hb2; have hz2 : wr.heap.size < w2.heap.size := (by have := HBc.out.size; simp at this; omega); have hz2' : w.heap.size < w2.heap.size := (by omega); clear hb2 hf2')
            | (go_at_call 62; refine (within_any _ _ _ _).mono ?_; rintro e3 w3 ⟨rfl, rfl⟩)
            | (go_at_call 71; refine (containsEntry_Check1 _ (fun y => Lx.Entry.same y e) (x.entries.take k) _ _ (by exact rds_take ((HR0.out.below HBA.out).more HBA.out.size) (by omega)) (by exact Check1_call e wr _ _ HBc.out _)).mono ?_; rintro e4 w4 ⟨rfl, hb4⟩; have HBc := Lib.hid (HBc.out.trans (hb4.mono HBc.out.size)); clear hb4))
          all_goals
            go_meet
            go_light
            refine ⟨?_, ((Below.refl wr.heap.size wr).alloc (Nat.le_refl _) _).trans (HBc.out.mono (by simp))⟩
            rw [HOA.out]
            clear HBc HBA HB HBW HG HC0 HC1 HC2 HOA HR0 HR1 HR2
            simp [Lx.Entry.ok, *]
        case rest =>
          obtain ⟨rfl, hbc⟩ := hcut
          have HBC := Lib.hid hbc
          clear hbc HBc HBA
          cases hok : Lx.okAt Lx.Entry.ok Lx.Entry.same x.entries k
          · have HF := Lib.hid (Lx.not_good_of hok)
            clear hok
            go_wp2_with fail
            go_ret
            exact ⟨ret_int (Lx.checkV_45 HTM.out  HF.out).symm, HBW.out.trans (HBC.out.mono (by omega))⟩
          · have HD2 := Lib.hid (Lx.to_succ HG.out hok)
            clear hok
            go_wp2_with fail
            go_roundg (x.entries.length - (k + 1))
            case measure => omega
            case rel => exact ⟨k + 1, by omega, rfl, by go_num, HB.out.trans (HBC.out.mono (by omega)), HD2.out⟩
      · have HG1 : Hid (Lx.good Lx.Entry.ok Lx.Entry.same x.entries = true) := Lib.hid (Lx.good_of fun j hj => HG.out j (by omega))
        clear HG
        go_wp2_with fail
        go_loopg [76] x.endings.length (fun g i wr => ∃ k : Nat, k ≤ x.endings.length ∧ g = x.endings.length - k ∧ i = .int .i64 k ∧ Below (w.heap.size + 1) (w.alloc (.cells #[.slice A0 x.entries.length c0, .slice A1 x.endings.length c1, .slice A2 x.clitics.length c2] 26)) wr ∧
          ∀ j, j < k → Lx.okAt Lx.Ending.ok Lx.Ending.same x.endings j = true)
        case atStart => exact ⟨0, Nat.zero_le _, rfl, rfl, HB.out, fun j hj => absurd hj (Nat.not_lt_zero j)⟩
        case round =>
          clear HB HBW hsz hsz2 hx0 hx1 hx2
          rename World => wr
          obtain ⟨k, hk, rfl, rfl, hbel, hgood⟩ := hrel
          have HG := Lib.hid hgood
          have HB := Lib.hid hbel
          have HBW := Lib.hid (((Below.refl w.heap.size w).alloc (Nat.le_refl _) _).trans (hbel.mono (Nat.le_succ _)))
          have hsz : w.heap.size < wr.heap.size := by have := hbel.size; simp at this; omega
          have hsz2 : w.heap.size < wr.heap.size + 1 := by omega
          have hx0 : wr.cell? ⟨w.heap.size, 0, none⟩ = some (.slice A0 x.entries.length c0) := by rw [hbel.cell (by simp)]; simp
          have hx1 : wr.cell? ⟨w.heap.size, 1, none⟩ = some (.slice A1 x.endings.length c1) := by rw [hbel.cell (by simp)]; simp
          have hx2 : wr.cell? ⟨w.heap.size, 2, none⟩ = some (.slice A2 x.clitics.length c2) := by rw [hbel.cell (by simp)]; simp
          clear hgood hbel
          by_cases hlt : k < x.endings.length
          · obtain ⟨b, off, rfl, hb, hcell⟩ := HC1.out (by omega)
            obtain ⟨e, he⟩ : ∃ e, x.endings[k]? = some e := ⟨_, List.getElem?_eq_getElem hlt⟩
            have f0 : wr.cell? ⟨b, off + k * 4, none⟩ = some (.int .i64 e.kind) := (HBW.out.cell hb).trans (hcell k e he 0 _ rfl)
            have f1 : wr.cell? ⟨b, off + k * 4 + 1, none⟩ = some (.string e.text) := (HBW.out.cell hb).trans (hcell k e he 1 _ rfl)
            have f2 : wr.cell? ⟨b, off + k * 4 + 2, none⟩ = some (.string e.name) := (HBW.out.cell hb).trans (hcell k e he 2 _ rfl)
            have f3 : wr.cell? ⟨b, off + k * 4 + 3, none⟩ = some (.int .i64 e.weight) := (HBW.out.cell hb).trans (hcell k e he 3 _ rfl)
            have hfe := FN.out e (List.mem_of_getElem? he)
            have hf1 := hfe.1
            have hf2 := hfe.2
            have HOA : Hid (Lx.okAt Lx.Ending.ok Lx.Ending.same x.endings k = (Lx.Ending.ok e && !((x.endings.take k).any fun y => Lx.Ending.same y e))) := Lib.hid (by simp [Lx.okAt, he])
            have hkI : (0 : Int) ≤ (k : Int) := by omega
            have hkJ : (k : Int) ≤ (c1 : Int) := by omega
            clear he hcell hfe
            go_upto_region 14 with fail
            have HBc := Lib.hid (Below.refl (wr.alloc (.cells #[.int .i64 e.kind, .string e.text, .string e.name, .int .i64 e.weight] 55)).heap.size (wr.alloc (.cells #[.int .i64 e.kind, .string e.text, .string e.name, .int .i64 e.weight] 55)))
            have HBA := Lib.hid (HBW.out.alloc (by omega : w.heap.size ≤ wr.heap.size) (.cells #[.int .i64 e.kind, .string e.text, .string e.name, .int .i64 e.weight] 55))
            go_cut [111] (fun t wc => t = .bool (!Lx.okAt Lx.Ending.ok Lx.Ending.same x.endings k) ∧ Below wr.heap.size wr wc)
            case first =>
              go_wp2_with (first
                | (go_at_call 69; refine (sounds_any _ _ _ (by assumption)).mono ?_; rintro e1 w1 ⟨rfl, hb1⟩; have HBc := Lib.hid (HBc.out.trans (hb1.mono HBc.out.size)); have HBA := Lib.hid (HBA.out.trans (hb1.mono HBA.out.size)); obtain ⟨hc1, hf1'⟩ := bcell hb1; have hz1 : wr.heap.size < w1.heap.size := (by have := HBc.out.size; simp at this; omega); have hz1' : w.heap.size < w1.heap.size := (by omega); clear hb1 hf1')
                | (go_at_call 70; refine (named_any _ _ (by assumption)).mono ?_; rintro e2 w2 ⟨rfl, hb2⟩; have HBc := Lib.hid (HBc.out.trans (hb2.mono HBc.out.size)); have HBA := Lib.hid (HBA.out.trans (hb2.mono HBA.out.size)); obtain ⟨hc2, hf2'⟩ := bcell hb2; have hz2 : wr.heap.size < w2.heap.size := (by have := HBc.out.size; simp at this; omega); have hz2' : w.heap.size < w2.heap.size := (by omega); clear hb2 hf2')
                | (go_at_call 62; refine (within_any _ _ _ _).mono ?_; rintro e3 w3 ⟨rfl, rfl⟩)
                | (go_at_call 73; refine (containsEnding_Check2 _ (fun y => Lx.Ending.same y e) (x.endings.take k) _ _ (by exact rds_take ((HR1.out.below HBA.out).more HBA.out.size) (by omega)) (by exact Check2_call e wr _ _ HBc.out _)).mono ?_; rintro e4 w4 ⟨rfl, hb4⟩; have HBc := Lib.hid (HBc.out.trans (hb4.mono HBc.out.size)); clear hb4))
              all_goals
                go_meet
                go_light
                refine ⟨?_, ((Below.refl wr.heap.size wr).alloc (Nat.le_refl _) _).trans (HBc.out.mono (by simp))⟩
                rw [HOA.out]
                clear HBc HBA HB HBW HG HC0 HC1 HC2 HOA HR0 HR1 HR2
                simp [Lx.Ending.ok, *]
            case rest =>
              obtain ⟨rfl, hbc⟩ := hcut
              have HBC := Lib.hid hbc
              clear hbc HBc HBA
              cases hok : Lx.okAt Lx.Ending.ok Lx.Ending.same x.endings k
              · have HF := Lib.hid (Lx.not_good_of hok)
                clear hok
                go_wp2_with fail
                go_ret
                exact ⟨ret_int (Lx.checkV_46 HTM.out HG1.out HF.out).symm, HBW.out.trans (HBC.out.mono (by omega))⟩
              · have HD2 := Lib.hid (Lx.to_succ HG.out hok)
                clear hok
                go_wp2_with fail
                go_roundg (x.endings.length - (k + 1))
                case measure => omega
                case rel => exact ⟨k + 1, by omega, rfl, by go_num, HB.out.trans (HBC.out.mono (by omega)), HD2.out⟩
          · have HG2 : Hid (Lx.good Lx.Ending.ok Lx.Ending.same x.endings = true) := Lib.hid (Lx.good_of fun j hj => HG.out j (by omega))
            clear HG
            go_wp2_with fail
            go_loopg [116] x.clitics.length (fun g i wr => ∃ k : Nat, k ≤ x.clitics.length ∧ g = x.clitics.length - k ∧ i = .int .i64 k ∧ Below (w.heap.size + 1) (w.alloc (.cells #[.slice A0 x.entries.length c0, .slice A1 x.endings.length c1, .slice A2 x.clitics.length c2] 26)) wr ∧
              ∀ j, j < k → Lx.okAt Lx.Clitic.ok Lx.Clitic.same x.clitics j = true)
            case atStart => exact ⟨0, Nat.zero_le _, rfl, rfl, HB.out, fun j hj => absurd hj (Nat.not_lt_zero j)⟩
            case round =>
              clear HB HBW hsz hsz2 hx0 hx1 hx2
              rename World => wr
              obtain ⟨k, hk, rfl, rfl, hbel, hgood⟩ := hrel
              have HG := Lib.hid hgood
              have HB := Lib.hid hbel
              have HBW := Lib.hid (((Below.refl w.heap.size w).alloc (Nat.le_refl _) _).trans (hbel.mono (Nat.le_succ _)))
              have hsz : w.heap.size < wr.heap.size := by have := hbel.size; simp at this; omega
              have hsz2 : w.heap.size < wr.heap.size + 1 := by omega
              have hx0 : wr.cell? ⟨w.heap.size, 0, none⟩ = some (.slice A0 x.entries.length c0) := by rw [hbel.cell (by simp)]; simp
              have hx1 : wr.cell? ⟨w.heap.size, 1, none⟩ = some (.slice A1 x.endings.length c1) := by rw [hbel.cell (by simp)]; simp
              have hx2 : wr.cell? ⟨w.heap.size, 2, none⟩ = some (.slice A2 x.clitics.length c2) := by rw [hbel.cell (by simp)]; simp
              clear hgood hbel
              by_cases hlt : k < x.clitics.length
              · obtain ⟨b, off, rfl, hb, hcell⟩ := HC2.out (by omega)
                obtain ⟨e, he⟩ : ∃ e, x.clitics[k]? = some e := ⟨_, List.getElem?_eq_getElem hlt⟩
                have f0 : wr.cell? ⟨b, off + k * 3, none⟩ = some (.string e.text) := (HBW.out.cell hb).trans (hcell k e he 0 _ rfl)
                have f1 : wr.cell? ⟨b, off + k * 3 + 1, none⟩ = some (.string e.name) := (HBW.out.cell hb).trans (hcell k e he 1 _ rfl)
                have f2 : wr.cell? ⟨b, off + k * 3 + 2, none⟩ = some (.int .i64 e.weight) := (HBW.out.cell hb).trans (hcell k e he 2 _ rfl)
                have hfe := FC.out e (List.mem_of_getElem? he)
                have hf1 := hfe.1
                have hf2 := hfe.2
                have HOA : Hid (Lx.okAt Lx.Clitic.ok Lx.Clitic.same x.clitics k = (Lx.Clitic.ok e && !((x.clitics.take k).any fun y => Lx.Clitic.same y e))) := Lib.hid (by simp [Lx.okAt, he])
                have hkI : (0 : Int) ≤ (k : Int) := by omega
                have hkJ : (k : Int) ≤ (c2 : Int) := by omega
                clear he hcell hfe
                go_upto_region 21 with fail
                have HBc := Lib.hid (Below.refl (wr.alloc (.cells #[.string e.text, .string e.name, .int .i64 e.weight] 65)).heap.size (wr.alloc (.cells #[.string e.text, .string e.name, .int .i64 e.weight] 65)))
                have HBA := Lib.hid (HBW.out.alloc (by omega : w.heap.size ≤ wr.heap.size) (.cells #[.string e.text, .string e.name, .int .i64 e.weight] 65))
                go_cut [145] (fun t wc => t = .bool (!Lx.okAt Lx.Clitic.ok Lx.Clitic.same x.clitics k) ∧ Below wr.heap.size wr wc)
                case first =>
                  go_wp2_with (first
                    | (go_at_call 69; refine (sounds_any _ _ _ (by assumption)).mono ?_; rintro e1 w1 ⟨rfl, hb1⟩; have HBc := Lib.hid (HBc.out.trans (hb1.mono HBc.out.size)); have HBA := Lib.hid (HBA.out.trans (hb1.mono HBA.out.size)); obtain ⟨hc1, hf1'⟩ := bcell hb1; have hz1 : wr.heap.size < w1.heap.size := (by have := HBc.out.size; simp at this; omega); have hz1' : w.heap.size < w1.heap.size := (by omega); clear hb1 hf1')
                    | (go_at_call 70; refine (named_any _ _ (by assumption)).mono ?_; rintro e2 w2 ⟨rfl, hb2⟩; have HBc := Lib.hid (HBc.out.trans (hb2.mono HBc.out.size)); have HBA := Lib.hid (HBA.out.trans (hb2.mono HBA.out.size)); obtain ⟨hc2, hf2'⟩ := bcell hb2; have hz2 : wr.heap.size < w2.heap.size := (by have := HBc.out.size; simp at this; omega); have hz2' : w.heap.size < w2.heap.size := (by omega); clear hb2 hf2')
                    | (go_at_call 62; refine (within_any _ _ _ _).mono ?_; rintro e3 w3 ⟨rfl, rfl⟩)
                    | (go_at_call 75; refine (containsClitic_Check3 _ (fun y => Lx.Clitic.same y e) (x.clitics.take k) _ _ (by exact rds_take ((HR2.out.below HBA.out).more HBA.out.size) (by omega)) (by exact Check3_call e wr _ _ HBc.out _)).mono ?_; rintro e4 w4 ⟨rfl, hb4⟩; have HBc := Lib.hid (HBc.out.trans (hb4.mono HBc.out.size)); clear hb4))
                  all_goals
                    go_meet
                    go_light
                    refine ⟨?_, ((Below.refl wr.heap.size wr).alloc (Nat.le_refl _) _).trans (HBc.out.mono (by simp))⟩
                    rw [HOA.out]
                    clear HBc HBA HB HBW HG HC0 HC1 HC2 HOA HR0 HR1 HR2
                    simp [Lx.Clitic.ok, *]
                case rest =>
                  obtain ⟨rfl, hbc⟩ := hcut
                  have HBC := Lib.hid hbc
                  clear hbc HBc HBA
                  cases hok : Lx.okAt Lx.Clitic.ok Lx.Clitic.same x.clitics k
                  · have HF := Lib.hid (Lx.not_good_of hok)
                    clear hok
                    go_wp2_with fail
                    go_ret
                    exact ⟨ret_int (Lx.checkV_47 HTM.out HG1.out HG2.out HF.out).symm, HBW.out.trans (HBC.out.mono (by omega))⟩
                  · have HD2 := Lib.hid (Lx.to_succ HG.out hok)
                    clear hok
                    go_wp2_with fail
                    go_roundg (x.clitics.length - (k + 1))
                    case measure => omega
                    case rel => exact ⟨k + 1, by omega, rfl, by go_num, HB.out.trans (HBC.out.mono (by omega)), HD2.out⟩
              · have HG3 : Hid (Lx.good Lx.Clitic.ok Lx.Clitic.same x.clitics = true) := Lib.hid (Lx.good_of fun j hj => HG.out j (by omega))
                clear HG
                go_wp2_with fail
                go_ret
                exact ⟨ret_int (Lx.checkV_0 HTM.out HG1.out HG2.out HG3.out).symm, HBW.out⟩
  · have htm' : (200 < x.entries.length) ∨ (40 < x.endings.length) ∨ (10 < x.clitics.length) := by
      simp [Lx.tooMany] at htm; omega
    have HF := Lib.hid (Lx.checkV_2 htm)
    clear htm
    go_enter Tryz.func33, Tryz.ntmps33
    go_wp2_with fail
    all_goals first
      | (exfalso; simp at *; omega)
      | skip
    all_goals go_ret
    all_goals exact ⟨ret_int HF.out.symm, (Below.refl _ _).alloc (Nat.le_refl _) _⟩
end Go.Proofs.YtpmnpnlfgfleeaaGreatDoor
