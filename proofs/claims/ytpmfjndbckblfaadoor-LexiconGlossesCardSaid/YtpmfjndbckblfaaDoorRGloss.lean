/- Decimal (of one digit), gloss and Gloss of the reference. Made by gen_rgloss.py. -/
import Derived.Test.YtpmfjndbckblfaaDoorMgGloss
import Derived.Test.YtpmfjndbckblfaaDoorGlossLaw
import Derived.Test.YtpmfjndbckblfaaDoorMgSounds
namespace Go.Proofs.YtpmfjndbckblfaaDoor
open Go.RowKit

set_option maxRecDepth 100000 in
theorem r1Decimal_any (n : Int) (h : 1 ≤ n ∧ n ≤ 9) (w : World) : Calls Tryd.prog 108 #[.int .i64 n] w fun e w' => e = .returned (.string ⟨(Lib.decDigits n.toNat).toArray⟩) ∧ w' = w := by
  rw [Lx.dec_dig h]
  rcases Lx.dig_cases h with rfl | rfl | rfl | rfl | rfl | rfl | rfl | rfl | rfl
  all_goals
    go_enter Tryd.func108, Tryd.ntmps108
    go_wp2_with fail
    go_ret
    first | exact ⟨by kernel_rfl, rfl⟩ | exact ⟨rfl, rfl⟩
theorem Lx.bytes_eq' {a b : ByteArray} (h : a.data.toList = b.data.toList) : a = b := by
  have e : a.data = b.data := Array.toList_inj.1 h
  cases a; cases b; simp only at e; rw [e]
theorem app3 (a b c : ByteArray) : a ++ b ++ c = a ++ (b ++ c) := by
  refine Lx.bytes_eq' ?_
  simp

set_option maxRecDepth 100000 in
set_option maxHeartbeats 4000000 in
theorem rgloss_any (v vf : Value) (x : Lx.Lexicon) (f : Lx.Form) (w : World) (hr : RdL w w.heap.size v x) (hf : RdF w w.heap.size vf f) (hv : Lx.formV x f = 0) :
    Calls Tryd.prog 84 #[v, vf] w (RetS (Lx.glossV x f) w) := by
  obtain ⟨⟨v0, v1, v2, rfl, ⟨A0, c0, rfl, hl0, hm0, hc0⟩, ⟨A1, c1, rfl, hl1, hm1, hc1⟩, ⟨A2, c2, rfl, hl2, hm2, hc2⟩⟩, -, -, -⟩ := hr
  obtain ⟨⟨sf, rfl, ⟨A3, c3, rfl, hl3, hm3, hc3⟩⟩⟩ := hf
  have hn0 : x.entries.length ≤ 9223372036854775807 := by omega
  have hn1 : x.endings.length ≤ 9223372036854775807 := by omega
  have hn2 : x.clitics.length ≤ 9223372036854775807 := by omega
  have hn3 : f.clitics.length ≤ 9223372036854775807 := by omega
  have HC0 := Lib.hid hc0
  have HC1 := Lib.hid hc1
  have HC2 := Lib.hid hc2
  have HC3 := Lib.hid hc3
  have HV' := Lib.hid hv
  clear hc0 hc1 hc2 hc3 hm0 hm1 hm2 hm3 hl0 hl1 hl2 hl3 hv
  obtain ⟨hval, hE⟩ := Lx.form_parts HV'.out
  obtain ⟨e, he, hlo, hhi, hk1, hk9⟩ := hE
  have hpar := Lx.check_parts hval.chk
  obtain ⟨_, hr8, hc8, _⟩ := Lx.ok_entry (Lx.good_at hpar.2.1 he)
  have hcl8 : e.cls.size ≤ 8 := hc8.elim (fun q => by rw [Lx.size_isEmpty q]; omega) id
  have hdig : (Lib.decDigits e.kind.toNat).length ≤ 1 := by rw [Lx.dec_dig ⟨hk1, hk9⟩]; simp
  obtain ⟨b, off, rfl, hb, hcell⟩ := HC0.out (by omega)
  obtain ⟨w1, hw1⟩ : ∃ w1, w1 = (w.alloc (.cells #[.slice (some ⟨b, off, none⟩) x.entries.length c0, .slice A1 x.endings.length c1, .slice A2 x.clitics.length c2] 26)).alloc (.cells #[.int .i64 f.entry, .int .i64 f.ending, .slice A3 f.clitics.length c3] 29) := ⟨_, rfl⟩
  have hB1 : Below w.heap.size w w1 := by rw [hw1]; exact ((Below.refl _ _).alloc (Nat.le_refl _) _).alloc (by simp) _
  have HB1 := Lib.hid hB1
  have hX : w1.heap[w.heap.size]? = some (.cells #[.slice (some ⟨b, off, none⟩) x.entries.length c0, .slice A1 x.endings.length c1, .slice A2 x.clitics.length c2] 26) := by rw [hw1]; exact start_fst w _ _
  have hF : w1.heap[w.heap.size + 1]? = some (.cells #[.int .i64 f.entry, .int .i64 f.ending, .slice A3 f.clitics.length c3] 29) := by rw [hw1]; exact start_res' w _ _
  have hsz1 : w.heap.size + 1 < w1.heap.size := by rw [hw1]; simp
  have bx0 : w1.cell? ⟨w.heap.size, 0, none⟩ = some (.slice (some ⟨b, off, none⟩) x.entries.length c0) := by simp [World.cell?, hX]
  have bx1 : w1.cell? ⟨w.heap.size, 1, none⟩ = some (.slice A1 x.endings.length c1) := by simp [World.cell?, hX]
  have bx2 : w1.cell? ⟨w.heap.size, 2, none⟩ = some (.slice A2 x.clitics.length c2) := by simp [World.cell?, hX]
  have bf0 : w1.cell? ⟨w.heap.size + 1, 0, none⟩ = some (.int .i64 f.entry) := by simp [World.cell?, hF]
  have bf1 : w1.cell? ⟨w.heap.size + 1, 1, none⟩ = some (.int .i64 f.ending) := by simp [World.cell?, hF]
  have bf2 : w1.cell? ⟨w.heap.size + 1, 2, none⟩ = some (.slice A3 f.clitics.length c3) := by simp [World.cell?, hF]
  have f0 : w1.cell? ⟨b, off + f.entry.toNat * 4, none⟩ = some (.string e.root) := (HB1.out.cell hb).trans (hcell _ e he 0 _ rfl)
  have f1 : w1.cell? ⟨b, off + f.entry.toNat * 4 + 1, none⟩ = some (.int .i64 e.kind) := (HB1.out.cell hb).trans (hcell _ e he 1 _ rfl)
  have f2 : w1.cell? ⟨b, off + f.entry.toNat * 4 + 2, none⟩ = some (.string e.cls) := (HB1.out.cell hb).trans (hcell _ e he 2 _ rfl)
  have f3 : w1.cell? ⟨b, off + f.entry.toNat * 4 + 3, none⟩ = some (.int .i64 e.weight) := (HB1.out.cell hb).trans (hcell _ e he 3 _ rfl)
  have HE := Lib.hid he
  have HVAL := Lib.hid hval
  have HPAR := Lib.hid hpar
  have HW1 := Lib.hid hw1
  have hsz1' : w.heap.size < w1.heap.size := by omega
  have hbw : b < w1.heap.size := by omega
  have HIT : Hid (∀ W, Calls Tryd.prog 108 #[.int .i64 e.kind] W fun e1 w' => e1 = .returned (.string ⟨(Lib.decDigits e.kind.toNat).toArray⟩) ∧ w' = W) := Lib.hid fun W => r1Decimal_any e.kind ⟨hk1, hk9⟩ W
  clear he hcell hval hpar hc8 hw1 hB1 hX hF
  generalize hdg : Lib.decDigits e.kind.toNat = dg at *
  have HDG := Lib.hid hdg
  clear hdg
  go_enter Tryd.func84, Tryd.ntmps84
  go_upto_region 1 with fail
  rw [← HW1.out]
  go_upto_region 2 with fail
  go_cut [6] (fun t wc => t = .string (e.root ++ ⟨#[47]⟩ ++ ⟨dg.toArray⟩) ∧ ∃ n, wc = (w1.alloc (.cells #[.string e.root, .int .i64 e.kind, .string e.cls, .int .i64 e.weight] 71)).drewN n)
  case first =>
    go_quiet ((go_at_call 108; exact Calls.quiet_of_same (HIT.out _)))
    all_goals go_wp2_with fail
    all_goals
      go_meet
      go_light
      first | exact ⟨rfl, _, rfl⟩ | exact ⟨rfl, 0, rfl⟩
  case rest =>
    obtain ⟨rfl, nd, rfl⟩ := hcut
    go_upto_if 23 with fail
    go_cut [6] (fun t wc => t = .string (Lx.glossHead e) ∧ wc = (w1.alloc (.cells #[.string e.root, .int .i64 e.kind, .string e.cls, .int .i64 e.weight] 71)).drewN nd)
    case first =>
      cases hce : e.cls.toList.isEmpty
      all_goals
        go_wp2_with fail
        go_meet
        go_light
        refine ⟨?_, rfl⟩
        simp [Lx.glossHead, hce, HDG.out, app3]
    case rest =>
      obtain ⟨rfl, rfl⟩ := hcut
      have hgh : (Lx.glossHead e).size ≤ 20 := Lx.glossHead_size e (by rw [HDG.out]; exact hdig) hr8 hcl8
      have hvf := HVAL.out.fin
      go_upto_if 31 with fail
      go_cut [6] (fun t wc => t = .string (Lx.glossEnd x f (Lx.glossHead e)) ∧ wc = (w1.alloc (.cells #[.string e.root, .int .i64 e.kind, .string e.cls, .int .i64 e.weight] 71)).drewN nd)
      case first =>
        by_cases hneg : f.ending < 0
        · go_wp2_with fail
          go_meet
          go_light
          refine ⟨?_, rfl⟩
          rw [Lx.glossEnd, if_pos hneg]
        · have hge : 0 ≤ f.ending := by omega
          have hlt1 : f.ending < (x.endings.length : Int) := by omega
          obtain ⟨b1, off1, rfl, hb1, hcell1⟩ := HC1.out (by omega)
          obtain ⟨g, hg⟩ : ∃ g, x.endings[f.ending.toNat]? = some g := ⟨_, List.getElem?_eq_getElem (by omega)⟩
          have fg2 : w1.cell? ⟨b1, off1 + f.ending.toNat * 4 + 2, none⟩ = some (.string g.name) := (HB1.out.cell hb1).trans (hcell1 _ g hg 2 _ rfl)
          have hgn := (Lx.ok_ending (Lx.good_at HPAR.out.2.2.1 hg)).2.2.1
          have HG := Lib.hid hg
          have hb1' : b1 < w1.heap.size := by omega
          clear hg hcell1 hvf
          go_wp2_with fail
          go_meet
          go_light
          refine ⟨?_, rfl⟩
          rw [Lx.glossEnd, if_neg (by omega), HG.out]
          simp [app3]
      case rest =>
        obtain ⟨rfl, rfl⟩ := hcut
        have hge : (Lx.glossEnd x f (Lx.glossHead e)).size ≤ 40 := Lx.glossEnd_size HPAR.out.2.2.1 hgh
        have HGV : Hid (Lx.glossV x f = Lx.glossClit x f.clitics (Lx.glossEnd x f (Lx.glossHead e))) := Lib.hid (by simp [Lx.glossV, HE.out])
        generalize hq0 : Lx.glossEnd x f (Lx.glossHead e) = t0 at *
        clear hq0 hgh hvf
        have hfew := HVAL.out.few
        go_wp2_with fail
        go_loopg [6, 7] f.clitics.length (fun g t i wr => ∃ (k : Nat) (ts : ByteArray), k ≤ f.clitics.length ∧ g = f.clitics.length - k ∧ i = .int .i64 k ∧ t = .string ts ∧ ts.size ≤ 40 + 10 * k ∧ (∃ nd, wr = (w1.alloc (.cells #[.string e.root, .int .i64 e.kind, .string e.cls, .int .i64 e.weight] 71)).drewN nd) ∧
          Lx.glossV x f = Lx.glossClit x (f.clitics.drop k) ts)
        case atStart => exact ⟨0, t0, Nat.zero_le _, rfl, rfl, rfl, by omega, ⟨_, rfl⟩, by simpa using HGV.out⟩
        case round =>
          obtain ⟨k, ts, hk, rfl, rfl, rfl, hts, ⟨nd1, rfl⟩, heq⟩ := hrel
          have HEQ := Lib.hid heq
          clear heq HGV
          by_cases hlt : k < f.clitics.length
          · obtain ⟨b3, off3, rfl, hb3, hcell3⟩ := HC3.out (by omega)
            obtain ⟨c, hc⟩ : ∃ c, f.clitics[k]? = some c := ⟨_, List.getElem?_eq_getElem hlt⟩
            obtain ⟨hclo, hchi⟩ := HVAL.out.cl k c hc
            have fc0 : w1.cell? ⟨b3, off3 + k, none⟩ = some (.int .i64 c) := by
              have := (HB1.out.cell (p := ⟨b3, off3 + k * 1 + 0, none⟩) hb3).trans (hcell3 k c hc 0 _ rfl)
              simpa using this
            obtain ⟨b2, off2, rfl, hb2, hcell2⟩ := HC2.out (by omega)
            obtain ⟨g, hg⟩ : ∃ g, x.clitics[c.toNat]? = some g := ⟨_, List.getElem?_eq_getElem (by omega)⟩
            have fg1 : w1.cell? ⟨b2, off2 + c.toNat * 3 + 1, none⟩ = some (.string g.name) := (HB1.out.cell hb2).trans (hcell2 _ g hg 1 _ rfl)
            have hgn := (Lx.ok_clitic (Lx.good_at HPAR.out.2.2.2 hg)).2.2.1
            have hb2' : b2 < w1.heap.size := by omega
            have hb3' : b3 < w1.heap.size := by omega
            have hkI : (k : Int) < (f.clitics.length : Int) := by omega
            have HN : Hid (Lx.glossV x f = Lx.glossClit x (f.clitics.drop (k + 1)) (ts ++ ⟨#[61]⟩ ++ g.name)) := Lib.hid (by
              rw [HEQ.out, List.drop_eq_getElem_cons hlt, app3]
              rw [List.getElem?_eq_getElem hlt] at hc
              injection hc with hc
              rw [hc]
              simp [Lx.glossClit, hg])
            have hsz2 : (ts ++ ⟨#[61]⟩ ++ g.name).size ≤ 40 + 10 * (k + 1) := by
              rw [ByteArray.size_append, ByteArray.size_append]; show ts.size + 1 + g.name.size ≤ _; omega
            have HSZ := Lib.hid hsz2
            clear hc hg hcell2 hcell3 hsz2
            go_upto_region 10 with fail
            go_quiet (fail)
            all_goals go_wp2_with fail
            all_goals go_roundg (f.clitics.length - (k + 1))
            all_goals first
              | omega
              | exact ⟨k + 1, _, by omega, rfl, by go_num, rfl, HSZ.out, ⟨_, World.drewN_drewN _ _ _⟩, HN.out⟩
              | exact ⟨k + 1, _, by omega, rfl, by go_num, rfl, HSZ.out, ⟨_, rfl⟩, HN.out⟩
          · have HF : Hid (Lx.glossV x f = ts) := Lib.hid (by rw [HEQ.out, List.drop_eq_nil_of_le (by omega)]; rfl)
            go_wp2_with fail
            go_ret
            exact ⟨ret_str HF.out.symm, below_drewN (HB1.out.alloc (by omega) _) _⟩

set_option maxRecDepth 100000 in
set_option maxHeartbeats 1000000 in
theorem rGloss_any (v vf : Value) (x : Lx.Lexicon) (f : Lx.Form) (w : World) (hr : RdL w w.heap.size v x) (hf : RdF w w.heap.size vf f) :
    Calls Tryd.prog 47 #[v, vf] w (RetSI (Lx.glossR x f) (Lx.formV x f) w) := by
  have HCK : Hid (∀ (W : World), Below w.heap.size w W → Calls Tryd.prog 18 #[v, vf] W (RetIB (Lx.formV x f) W)) := Lib.hid fun W hW => rCheckForm_any v vf x f W ((hr.below hW).more hW.size) ((hf.below hW).more hW.size)
  have HIN : Hid (Lx.formV x f = 0 → ∀ (W : World), Below w.heap.size w W → Calls Tryd.prog 84 #[v, vf] W (RetS (Lx.glossV x f) W)) := Lib.hid fun hv W hW => rgloss_any v vf x f W ((hr.below hW).more hW.size) ((hf.below hW).more hW.size) hv
  obtain ⟨⟨v0, v1, v2, rfl, ⟨A0, c0, rfl, -⟩, ⟨A1, c1, rfl, -⟩, ⟨A2, c2, rfl, -⟩⟩, -, -, -⟩ := hr
  obtain ⟨⟨sf, rfl, ⟨A3, c3, rfl, hl3, hm3, -⟩⟩⟩ := hf
  have hn3 : f.clitics.length ≤ 9223372036854775807 := by omega
  clear hl3 hm3
  generalize hcv : Lx.formV x f = cv at HCK
  have HV := Lib.hid hcv
  clear hcv
  go_enter Tryd.func47, Tryd.ntmps47
  go_wp2_with fail
  have hb0 : Below w.heap.size w ((w.alloc (.cells #[.slice A0 x.entries.length c0, .slice A1 x.endings.length c1, .slice A2 x.clitics.length c2] 26)).alloc (.cells #[.int .i64 f.entry, .int .i64 f.ending, .slice A3 f.clitics.length c3] 29)) := ((Below.refl _ _).alloc (Nat.le_refl _) _).alloc (by simp) _
  refine (HCK.out _ hb0).mono ?_
  rintro e1 w1 ⟨rfl, hb1⟩
  have HB1 := Lib.hid (hb0.trans (hb1.mono hb0.size))
  have hX := (hb1.block w.heap.size (by simp; omega)).trans (start_fst w (.cells #[.slice A0 x.entries.length c0, .slice A1 x.endings.length c1, .slice A2 x.clitics.length c2] 26) (.cells #[.int .i64 f.entry, .int .i64 f.ending, .slice A3 f.clitics.length c3] 29))
  have hF := (hb1.block (w.heap.size + 1) (by simp)).trans (start_res' w (.cells #[.slice A0 x.entries.length c0, .slice A1 x.endings.length c1, .slice A2 x.clitics.length c2] 26) (.cells #[.int .i64 f.entry, .int .i64 f.ending, .slice A3 f.clitics.length c3] 29))
  have x0 : w1.cell? ⟨w.heap.size, 0, none⟩ = some (.slice A0 x.entries.length c0) := by simp [World.cell?, hX]
  have x1 : w1.cell? ⟨w.heap.size, 1, none⟩ = some (.slice A1 x.endings.length c1) := by simp [World.cell?, hX]
  have x2 : w1.cell? ⟨w.heap.size, 2, none⟩ = some (.slice A2 x.clitics.length c2) := by simp [World.cell?, hX]
  have f0 : w1.cell? ⟨w.heap.size + 1, 0, none⟩ = some (.int .i64 f.entry) := by simp [World.cell?, hF]
  have f1 : w1.cell? ⟨w.heap.size + 1, 1, none⟩ = some (.int .i64 f.ending) := by simp [World.cell?, hF]
  have f2 : w1.cell? ⟨w.heap.size + 1, 2, none⟩ = some (.slice A3 f.clitics.length c3) := by simp [World.cell?, hF]
  clear hb1 hb0 hX hF
  by_cases hz : cv = 0
  · have hq : (cv == 0) = true := by simp [hz]
    have hq' : (cv != 0) = false := by simp [hz]
    have HV' : Hid (Lx.formV x f = 0) := Lib.hid (HV.out.trans hz)
    have HZ := Lib.hid hz
    clear hz
    go_wp2_with fail
    refine (HIN.out HV'.out _ HB1.out).mono ?_
    rintro e2 w2 ⟨rfl, hb2⟩
    have HB2 := Lib.hid (HB1.out.trans (hb2.mono HB1.out.size))
    clear hb2
    go_wp2_with fail
    go_ret2
    exact ⟨ret_si (Lx.glossR_ok HV'.out).symm HZ.out.symm, HB2.out⟩
  · have hq : (cv == 0) = false := by simp [hz]
    have hq' : (cv != 0) = true := by simp [hz]
    have HF : Hid (Lx.formV x f = cv ∧ ¬ cv = 0) := Lib.hid ⟨HV.out, hz⟩
    clear hz
    go_wp2_with fail
    go_ret2
    exact ⟨ret_si (Lx.glossR_no (by rw [HF.out.1]; exact HF.out.2)).symm rfl, HB1.out⟩
end Go.Proofs.YtpmfjndbckblfaaDoor
