/- The weight of a form: plain notions. lexicon.weight: the weight of a valid form. The reference's CheckForm. -/
import Derived.Test.YtpmnpnlfgfleeaaGreatDoorMgRead
import Derived.Test.YtpmnpnlfgfleeaaGreatDoorMgClone
import Derived.Test.YtpmnpnlfgfleeaaGreatDoorMgRCheck
import Derived.Test.YtpmnpnlfgfleeaaGreatDoorMgCopied
namespace Lx
def weighC (x : Lexicon) (c : Int) : Int := match x.clitics[c.toNat]? with
  | some g => g.weight
  | none => 0
def weighCs (x : Lexicon) : List Int → Int
  | [] => 0
  | c :: r => weighC x c + weighCs x r
def weighE (x : Lexicon) (f : Form) (n : Int) : Int := if f.ending < 0 then n else match x.endings[f.ending.toNat]? with
  | some g => n + g.weight
  | none => n
def heavyV (x : Lexicon) (f : Form) : Int := match x.entries[f.entry.toNat]? with
  | some e => weighE x f e.weight + weighCs x f.clitics
  | none => 0
/-- entry, ending and clitics of a form are there -/
structure FitsC (x : Lexicon) (f : Form) : Prop extends Fits x f where
  few : f.clitics.length ≤ 3
  cl : ∀ (k : Nat) (c : Int), f.clitics[k]? = some c → 0 ≤ c ∧ c < x.clitics.length
theorem Valid.fitsC {x : Lexicon} {f : Form} (h : Valid x f) : FitsC x f := { toFits := h.fits, few := h.few, cl := h.cl }
theorem weighE_le {x : Lexicon} {f : Form} {n : Int} (hg : good Ending.ok Ending.same x.endings = true) : n ≤ weighE x f n ∧ weighE x f n ≤ n + 1000 := by
  unfold weighE
  split
  · omega
  · split
    · rename_i g h
      have := ok_ending (good_at hg h)
      omega
    · omega
theorem weighCs_le {x : Lexicon} (hg : good Clitic.ok Clitic.same x.clitics = true) : ∀ (l : List Int), 0 ≤ weighCs x l ∧ weighCs x l ≤ 1000 * l.length
  | [] => by simp [weighCs]
  | c :: r => by
    have h := weighCs_le hg r
    have h1 : 0 ≤ weighC x c ∧ weighC x c ≤ 1000 := by
      unfold weighC
      split
      · rename_i g h
        have := ok_clitic (good_at hg h)
        omega
      · omega
    simp only [weighCs, List.length_cons]
    omega
theorem heavyV_le {x : Lexicon} {f : Form} (h : checkV x = 0) (hf : f.clitics.length ≤ 3) : 0 ≤ heavyV x f ∧ heavyV x f ≤ 5000 := by
  obtain ⟨_, h1, h2, h3⟩ := check_parts h
  unfold heavyV
  split
  · rename_i e he
    have a := ok_entry (good_at h1 he)
    have b := weighE_le (f := f) (n := e.weight) h2
    have c := weighCs_le h3 f.clitics
    omega
  · omega
end Lx
namespace Go.Proofs.YtpmnpnlfgfleeaaGreatDoor
open Go.RowKit

set_option maxRecDepth 100000 in
set_option maxHeartbeats 4000000 in
theorem weight_any (v vf : Value) (x : Lx.Lexicon) (f : Lx.Form) (w : World) (hr : RdL w w.heap.size v x) (hf : RdF w w.heap.size vf f) (hchk : Lx.checkV x = 0) (hfit : Lx.FitsC x f) :
    Calls Tryz.prog 31 #[v, vf] w (RetIB (Lx.heavyV x f) w) := by
  obtain ⟨⟨v0, v1, v2, rfl, ⟨A0, c0, rfl, hl0, hm0, hc0⟩, ⟨A1, c1, rfl, hl1, hm1, hc1⟩, ⟨A2, c2, rfl, hl2, hm2, hc2⟩⟩, -, -, -⟩ := hr
  obtain ⟨⟨sf, rfl, ⟨A3, c3, rfl, hl3, hm3, hc3⟩⟩⟩ := hf
  have hn0 : x.entries.length ≤ 9223372036854775807 := by omega
  have hn1 : x.endings.length ≤ 9223372036854775807 := by omega
  have hn2 : x.clitics.length ≤ 9223372036854775807 := by omega
  have hn3 : f.clitics.length ≤ 9223372036854775807 := by omega
  clear hl0 hl1 hl2 hl3 hm0 hm1 hm2 hm3
  have hpar := Lx.check_parts hchk
  obtain ⟨hlo, hhi⟩ := hfit.ent
  obtain ⟨b, off, rfl, hb, hcell⟩ := hc0 (by omega)
  obtain ⟨e, he⟩ : ∃ e, x.entries[f.entry.toNat]? = some e := ⟨_, List.getElem?_eq_getElem (by omega)⟩
  obtain ⟨_, _, _, _, _, hw0, hw1, _⟩ := Lx.ok_entry (Lx.good_at hpar.2.1 he)
  have f3 : w.cell? ⟨b, off + f.entry.toNat * 4 + 3, none⟩ = some (.int .i64 e.weight) := hcell _ e he 3 _ rfl
  have HBX : Hid (∀ A B : Obj, Below w.heap.size w ((w.alloc A).alloc B)) := Lib.hid fun A B => ((Below.refl _ _).alloc (Nat.le_refl _) _).alloc (by simp) _
  have HV : Hid (Lx.heavyV x f = Lx.weighE x f e.weight + Lx.weighCs x f.clitics) := Lib.hid (by simp [Lx.heavyV, he])
  have HPAR := Lib.hid hpar
  have HFIT := Lib.hid hfit
  have HC1 := Lib.hid hc1
  have HC2 := Lib.hid hc2
  have HC3 := Lib.hid hc3
  have hfin := hfit.fin
  clear hcell hchk he hpar hfit hc1 hc2 hc3
  go_enter Tryz.func31, Tryz.ntmps31
  go_upto_if 17 with fail
  go_cut [5] (fun t wc => t = .int .i64 (Lx.weighE x f e.weight) ∧ wc = (w.alloc (.cells #[.slice (some ⟨b, off, none⟩) x.entries.length c0, .slice A1 x.endings.length c1, .slice A2 x.clitics.length c2] 26)).alloc (.cells #[.int .i64 f.entry, .int .i64 f.ending, .slice A3 f.clitics.length c3] 29))
  case first =>
    by_cases hneg : f.ending < 0
    · go_wp2_with fail
      go_meet
      go_light
      refine ⟨?_, rfl⟩
      rw [Lx.weighE, if_pos hneg]
    · have hge : 0 ≤ f.ending := by omega
      have hlt1 : f.ending < (x.endings.length : Int) := by omega
      obtain ⟨b1, off1, rfl, hb1, hcell1⟩ := HC1.out (by omega)
      obtain ⟨g, hg⟩ : ∃ g, x.endings[f.ending.toNat]? = some g := ⟨_, List.getElem?_eq_getElem (by omega)⟩
      have fg3 : w.cell? ⟨b1, off1 + f.ending.toNat * 4 + 3, none⟩ = some (.int .i64 g.weight) := hcell1 _ g hg 3 _ rfl
      obtain ⟨_, _, _, hg0, hg1, _⟩ := Lx.ok_ending (Lx.good_at HPAR.out.2.2.1 hg)
      have HG := Lib.hid hg
      clear hg hcell1 hfin
      go_wp2_with fail
      go_meet
      go_light
      refine ⟨?_, rfl⟩
      rw [Lx.weighE, if_neg (by omega), HG.out]
  case rest =>
    obtain ⟨rfl, rfl⟩ := hcut
    obtain ⟨hn0', hn1'⟩ := Lx.weighE_le (f := f) (n := e.weight) HPAR.out.2.2.1
    generalize hq0 : Lx.weighE x f e.weight = n0 at *
    clear hq0 hfin
    have hfew := HFIT.out.few
    go_wp2_with fail
    go_loopg [5, 30] f.clitics.length (fun g t i wr => ∃ (k : Nat) (n : Int), k ≤ f.clitics.length ∧ g = f.clitics.length - k ∧ i = .int .i64 k ∧ t = .int .i64 n ∧ 0 ≤ n ∧ n ≤ 2000 + 1000 * k ∧
      wr = (w.alloc (.cells #[.slice (some ⟨b, off, none⟩) x.entries.length c0, .slice A1 x.endings.length c1, .slice A2 x.clitics.length c2] 26)).alloc (.cells #[.int .i64 f.entry, .int .i64 f.ending, .slice A3 f.clitics.length c3] 29) ∧
      Lx.heavyV x f = n + Lx.weighCs x (f.clitics.drop k))
    case atStart => exact ⟨0, n0, Nat.zero_le _, rfl, rfl, rfl, by omega, by omega, rfl, by simpa using HV.out⟩
    case round =>
      obtain ⟨k, n, hk, rfl, rfl, rfl, hp0, hp1, rfl, heq⟩ := hrel
      have HEQ := Lib.hid heq
      clear heq HV
      by_cases hlt : k < f.clitics.length
      · obtain ⟨b3, off3, rfl, hb3, hcell3⟩ := HC3.out (by omega)
        obtain ⟨c, hc⟩ : ∃ c, f.clitics[k]? = some c := ⟨_, List.getElem?_eq_getElem hlt⟩
        obtain ⟨hclo, hchi⟩ := HFIT.out.cl k c hc
        have fc0 : w.cell? ⟨b3, off3 + k, none⟩ = some (.int .i64 c) := by
          have := hcell3 k c hc 0 _ rfl
          simpa using this
        obtain ⟨b2, off2, rfl, hb2, hcell2⟩ := HC2.out (by omega)
        obtain ⟨g, hg⟩ : ∃ g, x.clitics[c.toNat]? = some g := ⟨_, List.getElem?_eq_getElem (by omega)⟩
        have fg1 : w.cell? ⟨b2, off2 + c.toNat * 3 + 2, none⟩ = some (.int .i64 g.weight) := hcell2 _ g hg 2 _ rfl
        obtain ⟨_, _, _, hg0, hg1, _⟩ := Lx.ok_clitic (Lx.good_at HPAR.out.2.2.2 hg)
        have hb2' : b2 < w.heap.size + 1 := by omega
        have hb3' : b3 < w.heap.size + 1 := by omega
        have HN : Hid (Lx.heavyV x f = (n + g.weight) + Lx.weighCs x (f.clitics.drop (k + 1))) := Lib.hid (by
          rw [HEQ.out, List.drop_eq_getElem_cons hlt]
          rw [List.getElem?_eq_getElem hlt] at hc
          injection hc with hc
          rw [hc]
          simp [Lx.weighCs, Lx.weighC, hg]
          omega)
        clear hc hg hcell2 hcell3
        go_wp2_with fail
        go_roundg (f.clitics.length - (k + 1))
        case measure => omega
        case rel => exact ⟨k + 1, _, by omega, rfl, by go_num, rfl, by omega, by omega, rfl, HN.out⟩
      · have HF : Hid (Lx.heavyV x f = n) := Lib.hid (by rw [HEQ.out, List.drop_eq_nil_of_le (by omega)]; simp [Lx.weighCs])
        go_wp2_with fail
        go_ret
        exact ⟨ret_int HF.out.symm, HBX.out _ _⟩
end Go.Proofs.YtpmnpnlfgfleeaaGreatDoor
namespace Go.Proofs.YtpmnpnlfgfleeaaGreatDoor
open Go.RowKit

set_option maxRecDepth 100000 in
set_option maxHeartbeats 4000000 in
theorem rCheckForm_any (v vf : Value) (x : Lx.Lexicon) (f : Lx.Form) (w : World) (hr : RdL w w.heap.size v x) (hf : RdF w w.heap.size vf f) :
    Calls Tryz.prog 7 #[v, vf] w (RetIB (Lx.formV x f) w) := by
  have HCK : ∀ (W : World), Below w.heap.size w W → Calls Tryz.prog 26 #[v] W (RetIB (Lx.checkV x) W) := fun W hW => rCheck_any v x W ((hr.below hW).more hW.size)
  obtain ⟨⟨v0, v1, v2, rfl, hr0, hr1, hr2⟩, fe, fn, fc⟩ := hr
  obtain ⟨⟨sf, rfl, hrf⟩⟩ := hf
  have HC := Lib.hid HCK
  clear HCK fe fn fc
  obtain ⟨A0, c0, rfl, hl0, hm0, hc0⟩ := hr0
  obtain ⟨A1, c1, rfl, hl1, hm1, hc1⟩ := hr1
  obtain ⟨A2, c2, rfl, hl2, hm2, hc2⟩ := hr2
  obtain ⟨A3, c3, rfl, hl3, hm3, hc3⟩ := hrf
  have hn0 : x.entries.length ≤ 9223372036854775807 := by omega
  have hn1 : x.endings.length ≤ 9223372036854775807 := by omega
  have hn2 : x.clitics.length ≤ 9223372036854775807 := by omega
  have hn3 : f.clitics.length ≤ 9223372036854775807 := by omega
  have HC0 := Lib.hid hc0
  have HC1 := Lib.hid hc1
  have HC2 := Lib.hid hc2
  have HC3 := Lib.hid hc3
  clear hc0 hc1 hc2 hc3 hm0 hm1 hm2 hm3 hl0 hl1 hl2 hl3
  generalize hcv : Lx.checkV x = cv at HC
  have HV := Lib.hid hcv
  clear hcv
  go_enter Tryz.func7, Tryz.ntmps7
  go_wp2_with fail
  refine (HC.out _ (((Below.refl _ _).alloc (Nat.le_refl _) _).alloc (by simp) _)).mono ?_
  rintro e1 w1 ⟨rfl, hb1⟩
  have hsz1 : w.heap.size + 1 < w1.heap.size := by have := hb1.size; simp at this; omega
  have bx0 : w1.cell? ⟨w.heap.size, 0, none⟩ = some (.slice A0 x.entries.length c0) := by rw [hb1.cell (by simp; try omega)]; simp
  have bx1 : w1.cell? ⟨w.heap.size, 1, none⟩ = some (.slice A1 x.endings.length c1) := by rw [hb1.cell (by simp; try omega)]; simp
  have bx2 : w1.cell? ⟨w.heap.size, 2, none⟩ = some (.slice A2 x.clitics.length c2) := by rw [hb1.cell (by simp; try omega)]; simp
  have bf0 : w1.cell? ⟨w.heap.size + 1, 0, none⟩ = some (.int .i64 f.entry) := by rw [hb1.cell (by simp; try omega)]; simp
  have bf1 : w1.cell? ⟨w.heap.size + 1, 1, none⟩ = some (.int .i64 f.ending) := by rw [hb1.cell (by simp; try omega)]; simp
  have bf2 : w1.cell? ⟨w.heap.size + 1, 2, none⟩ = some (.slice A3 f.clitics.length c3) := by rw [hb1.cell (by simp; try omega)]; simp
  have HB1 := Lib.hid ((((Below.refl w.heap.size w).alloc (Nat.le_refl _) _).alloc (by simp) _).trans (hb1.mono (by simp; omega)))
  clear hb1
  by_cases hz : cv = 0
  · have hq : (cv == 0) = true := by simp [hz]
    have hq' : (cv != 0) = false := by simp [hz]
    have HV' : Hid (Lx.checkV x = 0) := Lib.hid (HV.out.trans hz)
    clear hz
    cases hwi : Lx.withinB f.entry 0 ((x.entries.length : Int) - 1)
    · have HF := Lib.hid (Lx.formV_45 HV'.out hwi)
      have hlo : f.entry < 0 ∨ (x.entries.length : Int) ≤ f.entry := by
        have : ¬ (0 ≤ f.entry ∧ f.entry ≤ (x.entries.length : Int) - 1) := fun hh => by rw [Lx.within_iff.2 hh] at hwi; cases hwi
        omega
      clear hwi
      go_wp2_with fail
      all_goals first
        | (exfalso; omega)
        | (exfalso; simp at *; omega)
        | (go_ret; exact ⟨ret_int HF.out.symm, HB1.out⟩)
    · have HWI := Lib.hid hwi
      obtain ⟨hlo, hhi⟩ := Lx.within_iff.1 hwi
      have hhi' : f.entry < (x.entries.length : Int) := by omega
      obtain ⟨b, off, rfl, hb, hcell⟩ := HC0.out (by omega)
      obtain ⟨e, he⟩ : ∃ e, x.entries[f.entry.toNat]? = some e := ⟨_, List.getElem?_eq_getElem (by omega)⟩
      have fe1 : w1.cell? ⟨b, off + f.entry.toNat * 4 + 1, none⟩ = some (.int .i64 e.kind) := (HB1.out.cell hb).trans (hcell _ e he 1 _ rfl)
      have HE := Lib.hid he
      clear hwi hhi hcell he
      go_upto_region 6 with fail
      go_cut [55] (fun t wc => t = .bool (!Lx.endOK x f) ∧ ∃ n, wc = w1.drewN n)
      case first =>
        by_cases hm1 : f.ending = -1
        · have HR := Lib.hid (Lx.endOK_none (x := x) hm1)
          have hA : decide (f.ending < -1) = false := by simp [hm1]
          have hB : decide ((x.endings.length : Int) ≤ f.ending) = false := by simp [hm1]; omega
          have hC : decide (0 ≤ f.ending) = false := by simp [hm1]
          have hm2 : f.ending ≤ -1 := by omega
          have hm3 : -1 ≤ f.ending := by omega
          clear hm1
          go_quiet (fail)
          all_goals go_wp2_with fail
          all_goals
            go_meet
            go_light
            refine ⟨?_, _, rfl⟩
            rw [HR.out]
            rfl
        · cases hwe : Lx.withinB f.ending 0 ((x.endings.length : Int) - 1)
          · have HR := Lib.hid (Lx.endOK_out hm1 hwe)
            have hlo1 : f.ending < -1 ∨ (x.endings.length : Int) ≤ f.ending := by
              have : ¬ (0 ≤ f.ending ∧ f.ending ≤ (x.endings.length : Int) - 1) := fun hh => by rw [Lx.within_iff.2 hh] at hwe; cases hwe
              omega
            clear hm1 hwe
            rcases hlo1 with hlt | hge
            · have hA : decide (f.ending < -1) = true := by simp [hlt]
              go_quiet (fail)
              all_goals go_wp2_with fail
              all_goals
                go_meet
                go_light
                refine ⟨?_, _, rfl⟩
                rw [HR.out]
                rfl
            · have hA : decide (f.ending < -1) = false := by simp; omega
              have hA' : -1 ≤ f.ending := by omega
              have hB : decide ((x.endings.length : Int) ≤ f.ending) = true := by simp [hge]
              go_quiet (fail)
              all_goals go_wp2_with fail
              all_goals
                go_meet
                go_light
                refine ⟨?_, _, rfl⟩
                rw [HR.out]
                rfl
          · obtain ⟨hlo1, hhi1⟩ := Lx.within_iff.1 hwe
            have hhi1' : f.ending < (x.endings.length : Int) := by omega
            obtain ⟨b1, off1, rfl, hb1, hcell1⟩ := HC1.out (by omega)
            obtain ⟨g, hg⟩ : ∃ g, x.endings[f.ending.toNat]? = some g := ⟨_, List.getElem?_eq_getElem (by omega)⟩
            have fg0 : w1.cell? ⟨b1, off1 + f.ending.toNat * 4, none⟩ = some (.int .i64 g.kind) := (HB1.out.cell hb1).trans (hcell1 _ g hg 0 _ rfl)
            have HR := Lib.hid (Lx.endOK_in hm1 hwe hg HE.out)
            have hA : decide (f.ending < -1) = false := by simp; omega
            have hA' : -1 ≤ f.ending := by omega
            have hB : decide ((x.endings.length : Int) ≤ f.ending) = false := by simp; omega
            have hC : decide (0 ≤ f.ending) = true := by simp [hlo1]
            clear hm1 hwe hhi1 hcell1 hg
            go_quiet (fail)
            all_goals go_wp2_with fail
            all_goals
              go_meet
              go_light
              refine ⟨?_, _, rfl⟩
              rw [HR.out]
              simp
              try (rw [Bool.eq_iff_iff]; simp)
      case rest =>
        obtain ⟨rfl, nd, rfl⟩ := hcut
        cases hok : Lx.endOK x f
        · have HF := Lib.hid (Lx.formV_46 HV'.out HWI.out hok)
          clear hok
          go_wp2_with fail
          go_ret
          exact ⟨ret_int HF.out.symm, below_drewN HB1.out _⟩
        · have HOK := Lib.hid hok
          clear hok
          by_cases h3 : 3 < f.clitics.length
          · have HF := Lib.hid (Lx.formV_47a HV'.out HWI.out HOK.out h3)
            go_wp2_with fail
            go_ret
            exact ⟨ret_int HF.out.symm, below_drewN HB1.out _⟩
          · go_wp2_with fail
            go_loopg [6] f.clitics.length (fun g i wr => ∃ (k : Nat) (last : Int), k ≤ f.clitics.length ∧ g = f.clitics.length - k ∧ i = .int .i64 k ∧ (∃ n, wr = w1.drewN n) ∧
              ((k = 0 ∧ last = -1) ∨ (0 < k ∧ 0 ≤ last ∧ f.clitics[k - 1]? = some last)) ∧
              Lx.clitOK x.clitics.length (-1) f.clitics = Lx.clitOK x.clitics.length last (f.clitics.drop k))
            case atStart => exact ⟨0, -1, Nat.zero_le _, rfl, rfl, ⟨_, rfl⟩, .inl ⟨rfl, rfl⟩, by simp⟩
            case round =>
              obtain ⟨k, last, hk, rfl, rfl, ⟨nr, rfl⟩, hlast, heq⟩ := hrel
              have HEQ := Lib.hid heq
              have HLAST := Lib.hid hlast
              clear heq hlast
              by_cases hlt : k < f.clitics.length
              · obtain ⟨b3, off3, rfl, hb3, hcell3⟩ := HC3.out (by omega)
                obtain ⟨c, hc⟩ : ∃ c, f.clitics[k]? = some c := ⟨_, List.getElem?_eq_getElem hlt⟩
                have fc0 : w1.cell? ⟨b3, off3 + k, none⟩ = some (.int .i64 c) := by
                  have := (HB1.out.cell (p := ⟨b3, off3 + k * 1 + 0, none⟩) hb3).trans (hcell3 k c hc 0 _ rfl)
                  simpa using this
                have hkI : (0 : Int) ≤ (k : Int) := by omega
                have hkJ : (k : Int) < (f.clitics.length : Int) := by omega
                have HD : Hid (f.clitics.drop k = c :: f.clitics.drop (k + 1)) := Lib.hid (by
                  rw [List.drop_eq_getElem_cons hlt]
                  rw [List.getElem?_eq_getElem hlt] at hc
                  injection hc with hc
                  rw [hc])
                have HK := Lib.hid hc
                clear hc
                go_upto_region 13 with fail
                go_cut [101] (fun t wc => t = .bool (!(decide (last < c) && decide (c < (x.clitics.length : Int)))) ∧ ∃ n, wc = w1.drewN n)
                case first =>
                  by_cases hneg : c < 0
                  · have hA : decide (c < 0) = true := by simp [hneg]
                    have HR : Hid ((decide (last < c)) = false) := Lib.hid (by
                      have := HLAST.out
                      simp; omega)
                    go_quiet (fail)
                    all_goals go_wp2_with fail
                    all_goals
                      go_meet
                      go_light
                      first | refine ⟨?_, _, rfl⟩ | refine ⟨?_, _, World.drewN_drewN _ _ _⟩
                      rw [HR.out]
                      rfl
                  · have hA : decide (c < 0) = false := by simp [hneg]
                    have hA' : 0 ≤ c := by omega
                    by_cases hge : (x.clitics.length : Int) ≤ c
                    · have hB : decide ((x.clitics.length : Int) ≤ c) = true := by simp [hge]
                      have HR : Hid (decide (c < (x.clitics.length : Int)) = false) := Lib.hid (by simp [hge])
                      go_quiet (fail)
                      all_goals go_wp2_with fail
                      all_goals
                        go_meet
                        go_light
                        first | refine ⟨?_, _, rfl⟩ | refine ⟨?_, _, World.drewN_drewN _ _ _⟩
                        rw [HR.out, Bool.and_false]
                        rfl
                    · have hB : decide ((x.clitics.length : Int) ≤ c) = false := by simp [hge]
                      have hB' : c < (x.clitics.length : Int) := by omega
                      have HR : Hid (decide (c < (x.clitics.length : Int)) = true) := Lib.hid (by simp [hB'])
                      by_cases hk0 : k = 0
                      · have hC : decide ((0 : Int) < (k : Int)) = false := by simp [hk0]
                        have hC' : decide (0 < k) = false := by simp [hk0]
                        have HR2 : Hid (decide (last < c) = true) := Lib.hid (by
                          have := HLAST.out
                          simp; omega)
                        clear hk0
                        go_quiet (fail)
                        all_goals go_wp2_with fail
                        all_goals
                          go_meet
                          go_light
                          first | refine ⟨?_, _, rfl⟩ | refine ⟨?_, _, World.drewN_drewN _ _ _⟩
                          rw [HR.out, HR2.out]
                          rfl
                      · have hC : decide ((0 : Int) < (k : Int)) = true := by simp; omega
                        have hC' : decide (0 < k) = true := by simp; omega
                        have hkk : (1 : Int) ≤ (k : Int) := by omega
                        obtain ⟨_, hl0⟩ | ⟨_, _, hpr⟩ := HLAST.out
                        · exfalso; omega
                        have fp0 : w1.cell? ⟨b3, off3 + (k - 1), none⟩ = some (.int .i64 last) := by
                          have := (HB1.out.cell (p := ⟨b3, off3 + (k - 1) * 1 + 0, none⟩) hb3).trans (hcell3 (k - 1) last hpr 0 _ rfl)
                          simpa using this
                        clear hpr hk0 hcell3
                        go_quiet (fail)
                        all_goals go_wp2_with fail
                        all_goals
                          go_meet
                          go_light
                          first | refine ⟨?_, _, rfl⟩ | refine ⟨?_, _, World.drewN_drewN _ _ _⟩
                          rw [HR.out, Bool.and_true]
                          simp
                          try (rw [Bool.eq_iff_iff]; simp)
                case rest =>
                  obtain ⟨rfl, nc, rfl⟩ := hcut
                  cases hin : (decide (last < c) && decide (c < (x.clitics.length : Int)))
                  · have HF : Hid (Lx.formV x f = 47) := Lib.hid (Lx.formV_47b HV'.out HWI.out HOK.out h3 (by
                      rw [HEQ.out, HD.out]; simp only [Lx.clitOK]; rw [← Bool.and_assoc, hin]; rfl))
                    clear hin
                    go_wp2_with fail
                    go_ret
                    exact ⟨ret_int HF.out.symm, below_drewN HB1.out _⟩
                  · have HN : Hid (Lx.clitOK x.clitics.length (-1) f.clitics = Lx.clitOK x.clitics.length c (f.clitics.drop (k + 1))) := Lib.hid (by
                      rw [HEQ.out, HD.out]; simp only [Lx.clitOK]; rw [← Bool.and_assoc, hin]; rfl)
                    have HL : Hid (0 ≤ c) := Lib.hid (by
                      have := HLAST.out
                      simp at hin; omega)
                    clear hin
                    go_wp2_with fail
                    go_roundg (f.clitics.length - (k + 1))
                    case measure => omega
                    case rel => exact ⟨k + 1, c, by omega, rfl, by go_num, ⟨_, rfl⟩, .inr ⟨by omega, HL.out, HK.out⟩, HN.out⟩
              · have HF : Hid (Lx.formV x f = 0) := Lib.hid (Lx.formV_0 HV'.out HWI.out HOK.out h3 (by
                  rw [HEQ.out, List.drop_eq_nil_of_le (by omega)]; rfl))
                go_wp2_with fail
                go_ret
                exact ⟨ret_int HF.out.symm, below_drewN HB1.out _⟩
  · have hq : (cv == 0) = false := by simp [hz]
    have hq' : (cv != 0) = true := by simp [hz]
    have HF : Hid (Lx.formV x f = cv) := Lib.hid (by unfold Lx.formV; rw [HV.out, if_pos hz])
    clear hz
    go_wp2_with fail
    go_ret
    exact ⟨ret_int HF.out.symm, HB1.out⟩
end Go.Proofs.YtpmnpnlfgfleeaaGreatDoor
