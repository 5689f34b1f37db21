/- The program's Gloss. -/
import Derived.Test.YtpmnpnlfgfleeaaGreatDoorMgCopied
import Derived.Test.YtpmnpnlfgfleeaaGreatDoorMgGlossPlain
import Derived.Test.YtpmnpnlfgfleeaaGreatDoorMgShelf
namespace Go.Proofs.YtpmnpnlfgfleeaaGreatDoor
open Go.RowKit

def RetSI (s : ByteArray) (n : Int) (w : World) (e : Ending) (w' : World) : Prop := e = .returned (.tuple #[.string s, .int .i64 n]) ∧ Below w.heap.size w w'
theorem ret_si {s t : ByteArray} {a b : Int} (h : s = t) (h' : a = b) : Ending.returned (.tuple #[.string s, .int .i64 a]) = .returned (.tuple #[.string t, .int .i64 b]) := by rw [h, h']

set_option maxRecDepth 100000 in
set_option maxHeartbeats 4000000 in
theorem Gloss_any (v vf : Value) (x : Lx.Lexicon) (f : Lx.Form) (w : World) (hr : RdL w w.heap.size v x) (hf : RdF w w.heap.size vf f) :
    Calls Tryz.prog 13 #[v, vf] w (RetSI (Lx.glossR x f) (Lx.formV x f) w) := by
  have HCK : ∀ (W : World), Below w.heap.size w W → Calls Tryz.prog 30 #[v, vf] W (RetIB (Lx.formV x f) W) := fun W hW => CheckForm_any v vf x f W ((hr.below hW).more hW.size) ((hf.below hW).more hW.size)
  obtain ⟨⟨v0, v1, v2, rfl, hr0, hr1, hr2⟩, fe, fn, fc⟩ := hr
  obtain ⟨⟨sf, rfl, hrf⟩⟩ := hf
  have HC := Lib.hid HCK
  have FE := Lib.hid fe
  have FN := Lib.hid fn
  have FC := Lib.hid fc
  clear HCK fe fn fc
  obtain ⟨A0, c0, rfl, hl0, hm0, hc0⟩ := hr0
  obtain ⟨A1, c1, rfl, hl1, hm1, hc1⟩ := hr1
  obtain ⟨A2, c2, rfl, hl2, hm2, hc2⟩ := hr2
  obtain ⟨A3, c3, rfl, hl3, hm3, hc3⟩ := hrf
  have hn0 : x.entries.length ≤ 9223372036854775807 := by omega
  have hn1 : x.endings.length ≤ 9223372036854775807 := by omega
  have hn2 : x.clitics.length ≤ 9223372036854775807 := by omega
  have hn3 : f.clitics.length ≤ 9223372036854775807 := by omega
  have HC0 := Lib.hid hc0
  have HC1 := Lib.hid hc1
  have HC2 := Lib.hid hc2
  have HC3 := Lib.hid hc3
  clear hc0 hc1 hc2 hc3 hm0 hm1 hm2 hm3 hl0 hl1 hl2 hl3
  generalize hcv : Lx.formV x f = cv at HC
  have HV := Lib.hid hcv
  clear hcv
  go_enter Tryz.func13, Tryz.ntmps13
  go_wp2_with fail
  refine (HC.out _ (((Below.refl _ _).alloc (Nat.le_refl _) _).alloc (by simp) _)).mono ?_
  rintro e1 w1 ⟨rfl, hb1⟩
  have hsz1 : w.heap.size + 1 < w1.heap.size := by have := hb1.size; simp at this; omega
  have bx0 : w1.cell? ⟨w.heap.size, 0, none⟩ = some (.slice A0 x.entries.length c0) := by rw [hb1.cell (by simp; try omega)]; simp
  have bx1 : w1.cell? ⟨w.heap.size, 1, none⟩ = some (.slice A1 x.endings.length c1) := by rw [hb1.cell (by simp; try omega)]; simp
  have bx2 : w1.cell? ⟨w.heap.size, 2, none⟩ = some (.slice A2 x.clitics.length c2) := by rw [hb1.cell (by simp; try omega)]; simp
  have bf0 : w1.cell? ⟨w.heap.size + 1, 0, none⟩ = some (.int .i64 f.entry) := by rw [hb1.cell (by simp)]; simp
  have bf1 : w1.cell? ⟨w.heap.size + 1, 1, none⟩ = some (.int .i64 f.ending) := by rw [hb1.cell (by simp)]; simp
  have bf2 : w1.cell? ⟨w.heap.size + 1, 2, none⟩ = some (.slice A3 f.clitics.length c3) := by rw [hb1.cell (by simp)]; simp
  have HB1 := Lib.hid ((((Below.refl w.heap.size w).alloc (Nat.le_refl _) _).alloc (by simp) _).trans (hb1.mono (by simp; omega)))
  clear hb1
  by_cases hz : cv = 0
  · have hq : (cv == 0) = true := by simp [hz]
    have hq' : (cv != 0) = false := by simp [hz]
    have HV' : Hid (Lx.formV x f = 0) := Lib.hid (HV.out.trans hz)
    have HZ := Lib.hid hz
    clear hz
    obtain ⟨hval, hE⟩ := Lx.form_parts HV'.out
    obtain ⟨e, he, hlo, hhi, hk1, hk9⟩ := hE
    have hpar := Lx.check_parts hval.chk
    obtain ⟨_, hr8, hc8, _⟩ := Lx.ok_entry (Lx.good_at hpar.2.1 he)
    have hcl8 : e.cls.size ≤ 8 := hc8.elim (fun q => by rw [Lx.size_isEmpty q]; omega) id
    have hdig : (Lib.decDigits e.kind.toNat).length ≤ 1 := by
      have : e.kind.toNat = 1 ∨ e.kind.toNat = 2 ∨ e.kind.toNat = 3 ∨ e.kind.toNat = 4 ∨ e.kind.toNat = 5 ∨ e.kind.toNat = 6 ∨ e.kind.toNat = 7 ∨ e.kind.toNat = 8 ∨ e.kind.toNat = 9 := by omega
      rcases this with h | h | h | h | h | h | h | h | h <;> rw [h] <;> decide +kernel
    obtain ⟨b, off, rfl, hb, hcell⟩ := HC0.out (by omega)
    have f0 : w1.cell? ⟨b, off + f.entry.toNat * 4, none⟩ = some (.string e.root) := (HB1.out.cell hb).trans (hcell _ e he 0 _ rfl)
    have f1 : w1.cell? ⟨b, off + f.entry.toNat * 4 + 1, none⟩ = some (.int .i64 e.kind) := (HB1.out.cell hb).trans (hcell _ e he 1 _ rfl)
    have f2 : w1.cell? ⟨b, off + f.entry.toNat * 4 + 2, none⟩ = some (.string e.cls) := (HB1.out.cell hb).trans (hcell _ e he 2 _ rfl)
    have f3 : w1.cell? ⟨b, off + f.entry.toNat * 4 + 3, none⟩ = some (.int .i64 e.weight) := (HB1.out.cell hb).trans (hcell _ e he 3 _ rfl)
    have HE := Lib.hid he
    have HVAL := Lib.hid hval
    have HPAR := Lib.hid hpar
    have hsz1' : w.heap.size < w1.heap.size := by omega
    have HIT : Hid (∀ W, Calls Tryz.prog 32 #[.int .i64 e.kind] W fun e1 w' => e1 = .returned (.string ⟨(Lib.decDigits e.kind.toNat).toArray⟩) ∧ w' = W) := by
      refine Lib.hid (fun W => ?_)
      have := Tryz.strconv_Itoa_small e.kind.toNat (by omega) W
      rwa [show ((e.kind.toNat : Nat) : Int) = e.kind by omega] at this
    clear he hcell hval hpar hc8
    generalize hdg : Lib.decDigits e.kind.toNat = dg at *
    have HDG := Lib.hid hdg
    clear hdg
    go_upto_region 5 with fail
    go_cut [8] (fun t wc => t = .string (e.root ++ ⟨#[47]⟩ ++ ⟨dg.toArray⟩) ∧ ∃ n, wc = (w1.alloc (.cells #[.string e.root, .int .i64 e.kind, .string e.cls, .int .i64 e.weight] 57)).drewN n)
    case first =>
      go_quiet ((go_at_call 32; exact Calls.quiet_of_same (HIT.out _)))
      all_goals go_wp2_with fail
      all_goals
        go_meet
        go_light
        exact ⟨rfl, _, rfl⟩
    case rest =>
      obtain ⟨rfl, nd, rfl⟩ := hcut
      go_upto_if 32 with fail
      go_cut [8] (fun t wc => t = .string (Lx.glossHead e) ∧ wc = (w1.alloc (.cells #[.string e.root, .int .i64 e.kind, .string e.cls, .int .i64 e.weight] 57)).drewN nd)
      case first =>
        cases hce : e.cls.toList.isEmpty
        all_goals
          go_wp2_with fail
          go_meet
          go_light
          refine ⟨?_, rfl⟩
          simp [Lx.glossHead, hce, HDG.out]
      case rest =>
        obtain ⟨rfl, rfl⟩ := hcut
        have hgh : (Lx.glossHead e).size ≤ 20 := Lx.glossHead_size e (by rw [HDG.out]; exact hdig) hr8 hcl8
        have hvf := HVAL.out.fin
        go_upto_if 40 with fail
        go_cut [8] (fun t wc => t = .string (Lx.glossEnd x f (Lx.glossHead e)) ∧ wc = (w1.alloc (.cells #[.string e.root, .int .i64 e.kind, .string e.cls, .int .i64 e.weight] 57)).drewN nd)
        case first =>
          by_cases hneg : f.ending < 0
          · go_wp2_with fail
            go_meet
            go_light
            refine ⟨?_, rfl⟩
            rw [Lx.glossEnd, if_pos hneg]
          · have hge : 0 ≤ f.ending := by omega
            have hlt1 : f.ending < (x.endings.length : Int) := by omega
            obtain ⟨b1, off1, rfl, hb1, hcell1⟩ := HC1.out (by omega)
            obtain ⟨g, hg⟩ : ∃ g, x.endings[f.ending.toNat]? = some g := ⟨_, List.getElem?_eq_getElem (by omega)⟩
            have fg2 : w1.cell? ⟨b1, off1 + f.ending.toNat * 4 + 2, none⟩ = some (.string g.name) := (HB1.out.cell hb1).trans (hcell1 _ g hg 2 _ rfl)
            have hgn := (Lx.ok_ending (Lx.good_at HPAR.out.2.2.1 hg)).2.2.1
            have HG := Lib.hid hg
            have hb1' : b1 < w1.heap.size := by omega
            clear hg hcell1 hvf
            go_wp2_with fail
            go_meet
            go_light
            refine ⟨?_, rfl⟩
            rw [Lx.glossEnd, if_neg (by omega), HG.out]
        case rest =>
          obtain ⟨rfl, rfl⟩ := hcut
          have hge : (Lx.glossEnd x f (Lx.glossHead e)).size ≤ 40 := Lx.glossEnd_size HPAR.out.2.2.1 hgh
          have HGV : Hid (Lx.glossV x f = Lx.glossClit x f.clitics (Lx.glossEnd x f (Lx.glossHead e))) := Lib.hid (by simp [Lx.glossV, HE.out])
          generalize hq0 : Lx.glossEnd x f (Lx.glossHead e) = t0 at *
          clear hq0 hgh hvf
          have hfew := HVAL.out.few
          go_wp2_with fail
          go_loopg [8, 10, 54] f.clitics.length (fun g t c i wr => ∃ (k : Nat) (ts : ByteArray), k ≤ f.clitics.length ∧ g = f.clitics.length - k ∧ i = .int .i64 k ∧ t = .string ts ∧ ts.size ≤ 40 + 10 * k ∧ wr = (w1.alloc (.cells #[.string e.root, .int .i64 e.kind, .string e.cls, .int .i64 e.weight] 57)).drewN nd ∧
            Lx.glossV x f = Lx.glossClit x (f.clitics.drop k) ts)
          case atStart => exact ⟨0, t0, Nat.zero_le _, rfl, rfl, rfl, by omega, rfl, by simpa using HGV.out⟩
          case round =>
            obtain ⟨k, ts, hk, rfl, rfl, rfl, hts, rfl, heq⟩ := hrel
            have HEQ := Lib.hid heq
            clear heq HGV
            by_cases hlt : k < f.clitics.length
            · obtain ⟨b3, off3, rfl, hb3, hcell3⟩ := HC3.out (by omega)
              obtain ⟨c, hc⟩ : ∃ c, f.clitics[k]? = some c := ⟨_, List.getElem?_eq_getElem hlt⟩
              obtain ⟨hclo, hchi⟩ := HVAL.out.cl k c hc
              have fc0 : w1.cell? ⟨b3, off3 + k, none⟩ = some (.int .i64 c) := by
                have := (HB1.out.cell (p := ⟨b3, off3 + k * 1 + 0, none⟩) hb3).trans (hcell3 k c hc 0 _ rfl)
                simpa using this
              obtain ⟨b2, off2, rfl, hb2, hcell2⟩ := HC2.out (by omega)
              obtain ⟨g, hg⟩ : ∃ g, x.clitics[c.toNat]? = some g := ⟨_, List.getElem?_eq_getElem (by omega)⟩
              have fg1 : w1.cell? ⟨b2, off2 + c.toNat * 3 + 1, none⟩ = some (.string g.name) := (HB1.out.cell hb2).trans (hcell2 _ g hg 1 _ rfl)
              have hgn := (Lx.ok_clitic (Lx.good_at HPAR.out.2.2.2 hg)).2.2.1
              have hb2' : b2 < w1.heap.size := by omega
              have hb3' : b3 < w1.heap.size := by omega
              have HN : Hid (Lx.glossV x f = Lx.glossClit x (f.clitics.drop (k + 1)) (ts ++ (⟨#[61]⟩ ++ g.name))) := Lib.hid (by
                rw [HEQ.out, List.drop_eq_getElem_cons hlt]
                rw [List.getElem?_eq_getElem hlt] at hc
                injection hc with hc
                rw [hc]
                simp [Lx.glossClit, hg])
              clear hc hg hcell2 hcell3
              go_wp2_with fail
              go_roundg (f.clitics.length - (k + 1))
              case measure => omega
              case rel => exact ⟨k + 1, _, by omega, rfl, by go_num, rfl, (by rw [ByteArray.size_append, ByteArray.size_append]; show ts.size + (1 + g.name.size) ≤ _; omega), rfl, HN.out⟩
            · have HF : Hid (Lx.glossV x f = ts) := Lib.hid (by rw [HEQ.out, List.drop_eq_nil_of_le (by omega)]; rfl)
              go_wp2_with fail
              go_ret2
              refine ⟨ret_si ((Lx.glossR_ok HV'.out).trans HF.out).symm HZ.out.symm, below_drewN (HB1.out.alloc (by omega) _) _⟩
  · have hq : (cv == 0) = false := by simp [hz]
    have hq' : (cv != 0) = true := by simp [hz]
    have HF : Hid (Lx.formV x f = cv ∧ ¬ cv = 0) := Lib.hid ⟨HV.out, hz⟩
    clear hz
    go_wp2_with fail
    go_ret2
    exact ⟨ret_si (Lx.glossR_no (by rw [HF.out.1]; exact HF.out.2)).symm rfl, HB1.out⟩
end Go.Proofs.YtpmnpnlfgfleeaaGreatDoor
