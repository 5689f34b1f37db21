/- Stem, Sounds, Weight of the program and of the reference. Made by gen_sounds.py. -/
import Derived.Test.YtpmnpnlfgfleeaaGreatDoorMgRCheckForm
import Derived.Test.YtpmnpnlfgfleeaaGreatDoorMgCopied
namespace Go.Proofs.YtpmnpnlfgfleeaaGreatDoor
open Go.RowKit

def RetII (a b : Int) (w : World) (e : Ending) (w' : World) : Prop := e = .returned (.tuple #[.int .i64 a, .int .i64 b]) ∧ Below w.heap.size w w'
theorem ret_ii {a b c d : Int} (h : a = b) (h' : c = d) : Ending.returned (.tuple #[.int .i64 a, .int .i64 c]) = .returned (.tuple #[.int .i64 b, .int .i64 d]) := by rw [h, h']
def Lx.stemR (x : Lx.Lexicon) (f : Lx.Form) : ByteArray := if Lx.formV x f = 0 then Lx.stemV x f else ⟨#[]⟩
def Lx.weightR (x : Lx.Lexicon) (f : Lx.Form) : Int := if Lx.formV x f = 0 then Lx.heavyV x f else 0
/-- the sounds of clitics behind t -/
def Lx.saidC (x : Lx.Lexicon) : List Int → ByteArray → ByteArray
  | [], t => t
  | c :: r, t => match x.clitics[c.toNat]? with
    | some g => Lx.saidC x r (t ++ g.text)
    | none => Lx.saidC x r t
def Lx.saidV (x : Lx.Lexicon) (f : Lx.Form) : ByteArray := Lx.saidC x f.clitics (Lx.stemV x f)
def Lx.soundsR (x : Lx.Lexicon) (f : Lx.Form) : ByteArray := if Lx.formV x f = 0 then Lx.saidV x f else ⟨#[]⟩
theorem start_res' (w : World) (A B : Obj) : ((w.alloc A).alloc B).heap[w.heap.size + 1]? = some B := by
  have q := heap_alloc_new (w.alloc A) B
  have hs : (w.alloc A).heap.size = w.heap.size + 1 := by simp
  rw [hs] at q
  exact q
theorem stemV_size {x : Lx.Lexicon} {f : Lx.Form} (h : Lx.checkV x = 0) : (Lx.stemV x f).size ≤ 12 := by
  obtain ⟨_, h1, h2, _⟩ := Lx.check_parts h
  unfold Lx.stemV
  split
  · decide
  · rename_i e he
    have a := (Lx.ok_entry (Lx.good_at h1 he)).2.1
    split
    · omega
    · split
      · rename_i g hg
        have b := (Lx.ok_ending (Lx.good_at h2 hg)).2.1
        rw [ByteArray.size_append]; omega
      · omega

set_option maxRecDepth 100000 in
set_option maxHeartbeats 1000000 in
theorem Stem_any (v vf : Value) (x : Lx.Lexicon) (f : Lx.Form) (w : World) (hr : RdL w w.heap.size v x) (hf : RdF w w.heap.size vf f) :
    Calls Tryz.prog 29 #[v, vf] w (RetSI (Lx.stemR x f) (Lx.formV x f) w) := by
  have HCK : Hid (∀ (W : World), Below w.heap.size w W → Calls Tryz.prog 30 #[v, vf] W (RetIB (Lx.formV x f) W)) := Lib.hid fun W hW => CheckForm_any v vf x f W ((hr.below hW).more hW.size) ((hf.below hW).more hW.size)
  have HIN : Hid (Lx.formV x f = 0 → ∀ (W : World), Below w.heap.size w W → Calls Tryz.prog 66 #[v, vf] W (RetS (Lx.stemV x f) W)) := Lib.hid fun hv W hW => stem_any v vf x f W ((hr.below hW).more hW.size) ((hf.below hW).more hW.size) (Lx.valid_of hv).chk (Lx.valid_of hv).fits
  obtain ⟨⟨v0, v1, v2, rfl, ⟨A0, c0, rfl, -⟩, ⟨A1, c1, rfl, -⟩, ⟨A2, c2, rfl, -⟩⟩, -, -, -⟩ := hr
  obtain ⟨⟨sf, rfl, ⟨A3, c3, rfl, hl3, hm3, -⟩⟩⟩ := hf
  have hn3 : f.clitics.length ≤ 9223372036854775807 := by omega
  clear hl3 hm3
  generalize hcv : Lx.formV x f = cv at HCK
  have HV := Lib.hid hcv
  clear hcv
  go_enter Tryz.func29, Tryz.ntmps29
  go_wp2_with fail
  have hb0 : Below w.heap.size w ((w.alloc (.cells #[.slice A0 x.entries.length c0, .slice A1 x.endings.length c1, .slice A2 x.clitics.length c2] 26)).alloc (.cells #[.int .i64 f.entry, .int .i64 f.ending, .slice A3 f.clitics.length c3] 29)) := ((Below.refl _ _).alloc (Nat.le_refl _) _).alloc (by simp) _
  refine (HCK.out _ hb0).mono ?_
  rintro e1 w1 ⟨rfl, hb1⟩
  have HB1 := Lib.hid (hb0.trans (hb1.mono hb0.size))
  have hX := (hb1.block w.heap.size (by simp; omega)).trans (start_fst w (.cells #[.slice A0 x.entries.length c0, .slice A1 x.endings.length c1, .slice A2 x.clitics.length c2] 26) (.cells #[.int .i64 f.entry, .int .i64 f.ending, .slice A3 f.clitics.length c3] 29))
  have hF := (hb1.block (w.heap.size + 1) (by simp)).trans (start_res' w (.cells #[.slice A0 x.entries.length c0, .slice A1 x.endings.length c1, .slice A2 x.clitics.length c2] 26) (.cells #[.int .i64 f.entry, .int .i64 f.ending, .slice A3 f.clitics.length c3] 29))
  have x0 : w1.cell? ⟨w.heap.size, 0, none⟩ = some (.slice A0 x.entries.length c0) := by simp [World.cell?, hX]
  have x1 : w1.cell? ⟨w.heap.size, 1, none⟩ = some (.slice A1 x.endings.length c1) := by simp [World.cell?, hX]
  have x2 : w1.cell? ⟨w.heap.size, 2, none⟩ = some (.slice A2 x.clitics.length c2) := by simp [World.cell?, hX]
  have f0 : w1.cell? ⟨w.heap.size + 1, 0, none⟩ = some (.int .i64 f.entry) := by simp [World.cell?, hF]
  have f1 : w1.cell? ⟨w.heap.size + 1, 1, none⟩ = some (.int .i64 f.ending) := by simp [World.cell?, hF]
  have f2 : w1.cell? ⟨w.heap.size + 1, 2, none⟩ = some (.slice A3 f.clitics.length c3) := by simp [World.cell?, hF]
  clear hb1 hb0 hX hF
  by_cases hz : cv = 0
  · have hq : (cv == 0) = true := by simp [hz]
    have hq' : (cv != 0) = false := by simp [hz]
    have HV' : Hid (Lx.formV x f = 0) := Lib.hid (HV.out.trans hz)
    have HZ := Lib.hid hz
    clear hz
    go_wp2_with fail
    refine (HIN.out HV'.out _ HB1.out).mono ?_
    rintro e2 w2 ⟨rfl, hb2⟩
    have HB2 := Lib.hid (HB1.out.trans (hb2.mono HB1.out.size))
    clear hb2
    go_wp2_with fail
    go_ret2
    exact ⟨ret_si (by rw [Lx.stemR, if_pos HV'.out]) HZ.out.symm, HB2.out⟩
  · have hq : (cv == 0) = false := by simp [hz]
    have hq' : (cv != 0) = true := by simp [hz]
    have HF : Hid (Lx.formV x f = cv ∧ ¬ cv = 0) := Lib.hid ⟨HV.out, hz⟩
    clear hz
    go_wp2_with fail
    go_ret2
    exact ⟨ret_si (by rw [Lx.stemR, if_neg (by rw [HF.out.1]; exact HF.out.2)]) rfl, HB1.out⟩




set_option maxRecDepth 100000 in
set_option maxHeartbeats 1000000 in
theorem Weight_any (v vf : Value) (x : Lx.Lexicon) (f : Lx.Form) (w : World) (hr : RdL w w.heap.size v x) (hf : RdF w w.heap.size vf f) :
    Calls Tryz.prog 12 #[v, vf] w (RetII (Lx.weightR x f) (Lx.formV x f) w) := by
  have HCK : Hid (∀ (W : World), Below w.heap.size w W → Calls Tryz.prog 30 #[v, vf] W (RetIB (Lx.formV x f) W)) := Lib.hid fun W hW => CheckForm_any v vf x f W ((hr.below hW).more hW.size) ((hf.below hW).more hW.size)
  have HIN : Hid (Lx.formV x f = 0 → ∀ (W : World), Below w.heap.size w W → Calls Tryz.prog 31 #[v, vf] W (RetIB (Lx.heavyV x f) W)) := Lib.hid fun hv W hW => weight_any v vf x f W ((hr.below hW).more hW.size) ((hf.below hW).more hW.size) (Lx.valid_of hv).chk (Lx.valid_of hv).fitsC
  obtain ⟨⟨v0, v1, v2, rfl, ⟨A0, c0, rfl, -⟩, ⟨A1, c1, rfl, -⟩, ⟨A2, c2, rfl, -⟩⟩, -, -, -⟩ := hr
  obtain ⟨⟨sf, rfl, ⟨A3, c3, rfl, hl3, hm3, -⟩⟩⟩ := hf
  have hn3 : f.clitics.length ≤ 9223372036854775807 := by omega
  clear hl3 hm3
  generalize hcv : Lx.formV x f = cv at HCK
  have HV := Lib.hid hcv
  clear hcv
  go_enter Tryz.func12, Tryz.ntmps12
  go_wp2_with fail
  have hb0 : Below w.heap.size w ((w.alloc (.cells #[.slice A0 x.entries.length c0, .slice A1 x.endings.length c1, .slice A2 x.clitics.length c2] 26)).alloc (.cells #[.int .i64 f.entry, .int .i64 f.ending, .slice A3 f.clitics.length c3] 29)) := ((Below.refl _ _).alloc (Nat.le_refl _) _).alloc (by simp) _
  refine (HCK.out _ hb0).mono ?_
  rintro e1 w1 ⟨rfl, hb1⟩
  have HB1 := Lib.hid (hb0.trans (hb1.mono hb0.size))
  have hX := (hb1.block w.heap.size (by simp; omega)).trans (start_fst w (.cells #[.slice A0 x.entries.length c0, .slice A1 x.endings.length c1, .slice A2 x.clitics.length c2] 26) (.cells #[.int .i64 f.entry, .int .i64 f.ending, .slice A3 f.clitics.length c3] 29))
  have hF := (hb1.block (w.heap.size + 1) (by simp)).trans (start_res' w (.cells #[.slice A0 x.entries.length c0, .slice A1 x.endings.length c1, .slice A2 x.clitics.length c2] 26) (.cells #[.int .i64 f.entry, .int .i64 f.ending, .slice A3 f.clitics.length c3] 29))
  have x0 : w1.cell? ⟨w.heap.size, 0, none⟩ = some (.slice A0 x.entries.length c0) := by simp [World.cell?, hX]
  have x1 : w1.cell? ⟨w.heap.size, 1, none⟩ = some (.slice A1 x.endings.length c1) := by simp [World.cell?, hX]
  have x2 : w1.cell? ⟨w.heap.size, 2, none⟩ = some (.slice A2 x.clitics.length c2) := by simp [World.cell?, hX]
  have f0 : w1.cell? ⟨w.heap.size + 1, 0, none⟩ = some (.int .i64 f.entry) := by simp [World.cell?, hF]
  have f1 : w1.cell? ⟨w.heap.size + 1, 1, none⟩ = some (.int .i64 f.ending) := by simp [World.cell?, hF]
  have f2 : w1.cell? ⟨w.heap.size + 1, 2, none⟩ = some (.slice A3 f.clitics.length c3) := by simp [World.cell?, hF]
  clear hb1 hb0 hX hF
  by_cases hz : cv = 0
  · have hq : (cv == 0) = true := by simp [hz]
    have hq' : (cv != 0) = false := by simp [hz]
    have HV' : Hid (Lx.formV x f = 0) := Lib.hid (HV.out.trans hz)
    have HZ := Lib.hid hz
    clear hz
    go_wp2_with fail
    refine (HIN.out HV'.out _ HB1.out).mono ?_
    rintro e2 w2 ⟨rfl, hb2⟩
    have HB2 := Lib.hid (HB1.out.trans (hb2.mono HB1.out.size))
    clear hb2
    go_wp2_with fail
    go_ret2
    exact ⟨ret_ii (by rw [Lx.weightR, if_pos HV'.out]) HZ.out.symm, HB2.out⟩
  · have hq : (cv == 0) = false := by simp [hz]
    have hq' : (cv != 0) = true := by simp [hz]
    have HF : Hid (Lx.formV x f = cv ∧ ¬ cv = 0) := Lib.hid ⟨HV.out, hz⟩
    clear hz
    go_wp2_with fail
    go_ret2
    exact ⟨ret_ii (by rw [Lx.weightR, if_neg (by rw [HF.out.1]; exact HF.out.2)]) rfl, HB1.out⟩



set_option maxRecDepth 100000 in
set_option maxHeartbeats 4000000 in
theorem Sounds_any (v vf : Value) (x : Lx.Lexicon) (f : Lx.Form) (w : World) (hr : RdL w w.heap.size v x) (hf : RdF w w.heap.size vf f) :
    Calls Tryz.prog 10 #[v, vf] w (RetSI (Lx.soundsR x f) (Lx.formV x f) w) := by
  have HIN : Hid (∀ (W : World), Below w.heap.size w W → Calls Tryz.prog 29 #[v, vf] W (RetSI (Lx.stemR x f) (Lx.formV x f) W)) := Lib.hid fun W hW => Stem_any v vf x f W ((hr.below hW).more hW.size) ((hf.below hW).more hW.size)
  obtain ⟨⟨v0, v1, v2, rfl, ⟨A0, c0, rfl, -⟩, ⟨A1, c1, rfl, -⟩, ⟨A2, c2, rfl, hl2, hm2, hc2⟩⟩, -, -, -⟩ := hr
  obtain ⟨⟨sf, rfl, ⟨A3, c3, rfl, hl3, hm3, hc3⟩⟩⟩ := hf
  have hn2 : x.clitics.length ≤ 9223372036854775807 := by omega
  have hn3 : f.clitics.length ≤ 9223372036854775807 := by omega
  have HC2 := Lib.hid hc2
  have HC3 := Lib.hid hc3
  clear hl2 hm2 hl3 hm3 hc2 hc3
  generalize hcv : Lx.formV x f = cv at HIN
  generalize hsv : Lx.stemR x f = t0 at HIN
  have HV := Lib.hid hcv
  have HS := Lib.hid hsv
  clear hcv hsv
  go_enter Tryz.func10, Tryz.ntmps10
  go_wp2_with fail
  have hb0 : Below w.heap.size w ((w.alloc (.cells #[.slice A0 x.entries.length c0, .slice A1 x.endings.length c1, .slice A2 x.clitics.length c2] 26)).alloc (.cells #[.int .i64 f.entry, .int .i64 f.ending, .slice A3 f.clitics.length c3] 29)) := ((Below.refl _ _).alloc (Nat.le_refl _) _).alloc (by simp) _
  refine (HIN.out _ hb0).mono ?_
  rintro e1 w1 ⟨rfl, hb1⟩
  have HB1 := Lib.hid (hb0.trans (hb1.mono hb0.size))
  have hX := (hb1.block w.heap.size (by simp; omega)).trans (start_fst w (.cells #[.slice A0 x.entries.length c0, .slice A1 x.endings.length c1, .slice A2 x.clitics.length c2] 26) (.cells #[.int .i64 f.entry, .int .i64 f.ending, .slice A3 f.clitics.length c3] 29))
  have hF := (hb1.block (w.heap.size + 1) (by simp)).trans (start_res' w (.cells #[.slice A0 x.entries.length c0, .slice A1 x.endings.length c1, .slice A2 x.clitics.length c2] 26) (.cells #[.int .i64 f.entry, .int .i64 f.ending, .slice A3 f.clitics.length c3] 29))
  have x2 : w1.cell? ⟨w.heap.size, 2, none⟩ = some (.slice A2 x.clitics.length c2) := by simp [World.cell?, hX]
  have f2 : w1.cell? ⟨w.heap.size + 1, 2, none⟩ = some (.slice A3 f.clitics.length c3) := by simp [World.cell?, hF]
  clear hb1 hb0 hX hF
  by_cases hz : cv = 0
  · have hq : (cv == 0) = true := by simp [hz]
    have hq' : (cv != 0) = false := by simp [hz]
    have HV' : Hid (Lx.formV x f = 0) := Lib.hid (HV.out.trans hz)
    have HZ := Lib.hid hz
    clear hz
    have HVAL := Lib.hid (Lx.valid_of HV'.out)
    have HPAR := Lib.hid (Lx.check_parts HVAL.out.chk)
    have hfew := HVAL.out.few
    have hst : t0.size ≤ 12 := by rw [← HS.out, Lx.stemR, if_pos HV'.out]; exact stemV_size HVAL.out.chk
    have HV2 : Hid (Lx.soundsR x f = Lx.saidC x f.clitics t0) := Lib.hid (by rw [Lx.soundsR, if_pos HV'.out, Lx.saidV, ← HS.out, Lx.stemR, if_pos HV'.out])
    go_wp2_with fail
    go_loopg [6, 22] f.clitics.length (fun g t i wr => ∃ (k : Nat) (ts : ByteArray), k ≤ f.clitics.length ∧ g = f.clitics.length - k ∧ i = .int .i64 k ∧ t = .string ts ∧ ts.size ≤ 12 + 4 * k ∧ wr = w1 ∧ Lx.soundsR x f = Lx.saidC x (f.clitics.drop k) ts)
    case atStart => exact ⟨0, t0, Nat.zero_le _, rfl, rfl, rfl, by omega, rfl, by simpa using HV2.out⟩
    case round =>
      obtain ⟨k, ts, hk, rfl, rfl, rfl, hts, rfl, heq⟩ := hrel
      have HEQ := Lib.hid heq
      clear heq HV2
      by_cases hlt : k < f.clitics.length
      · obtain ⟨b3, off3, rfl, hb3, hcell3⟩ := HC3.out (by omega)
        obtain ⟨c, hc⟩ : ∃ c, f.clitics[k]? = some c := ⟨_, List.getElem?_eq_getElem hlt⟩
        obtain ⟨hclo, hchi⟩ := HVAL.out.cl k c hc
        have fc0 := (HB1.out.cell (p := ⟨b3, off3 + k * 1 + 0, none⟩) hb3).trans (hcell3 k c hc 0 _ rfl)
        simp only [Nat.mul_one, Nat.add_zero] at fc0
        obtain ⟨b2, off2, rfl, hb2, hcell2⟩ := HC2.out (by omega)
        obtain ⟨g, hg⟩ : ∃ g, x.clitics[c.toNat]? = some g := ⟨_, List.getElem?_eq_getElem (by omega)⟩
        have fg0 := (HB1.out.cell (p := ⟨b2, off2 + c.toNat * 3 + 0, none⟩) hb2).trans (hcell2 _ g hg 0 _ rfl)
        simp only [Nat.add_zero] at fg0
        have hg4 := (Lx.ok_clitic (Lx.good_at HPAR.out.2.2.2 hg)).2.1
        have HN : Hid (Lx.soundsR x f = Lx.saidC x (f.clitics.drop (k + 1)) (ts ++ g.text)) := Lib.hid (by
          rw [HEQ.out, List.drop_eq_getElem_cons hlt]
          rw [List.getElem?_eq_getElem hlt] at hc
          injection hc with hc
          rw [hc]
          simp [Lx.saidC, hg])
        clear hc hg hcell2 hcell3
        have hkI : (k : Int) < (f.clitics.length : Int) := by omega
        go_wp2_with fail
        go_roundg (f.clitics.length - (k + 1))
        case measure => omega
        case rel => exact ⟨k + 1, _, by omega, rfl, by go_num, rfl, by (rw [ByteArray.size_append]; omega), rfl, HN.out⟩
      · have HF : Hid (Lx.soundsR x f = ts) := Lib.hid (by rw [HEQ.out, List.drop_eq_nil_of_le (by omega)]; rfl)
        go_wp2_with fail
        go_ret2
        exact ⟨ret_si HF.out.symm HZ.out.symm, HB1.out⟩
  · have hq : (cv == 0) = false := by simp [hz]
    have hq' : (cv != 0) = true := by simp [hz]
    have HF : Hid (Lx.formV x f = cv ∧ ¬ cv = 0) := Lib.hid ⟨HV.out, hz⟩
    clear hz
    go_wp2_with fail
    go_ret2
    exact ⟨ret_si (by rw [Lx.soundsR, if_neg (by rw [HF.out.1]; exact HF.out.2)]) rfl, HB1.out⟩
end Go.Proofs.YtpmnpnlfgfleeaaGreatDoor
