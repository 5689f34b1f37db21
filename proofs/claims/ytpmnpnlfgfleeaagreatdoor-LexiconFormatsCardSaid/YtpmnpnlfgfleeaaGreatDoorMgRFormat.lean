/- ostraconref01.Decimal. ostraconref05.Format. -/
import Derived.Test.YtpmnpnlfgfleeaaGreatDoorMgFmtPlain
import Derived.Test.YtpmnpnlfgfleeaaGreatDoorMgClone
import Derived.Test.YtpmnpnlfgfleeaaGreatDoorMgFormat
import Derived.Test.YtpmnpnlfgfleeaaGreatDoorMgRCheck
import Derived.BigQuiet
namespace Go.Proofs.YtpmnpnlfgfleeaaGreatDoor
open Go Go.RowKit

theorem dig_extract (d : Nat) (h : d < 10) : (⟨#[48, 49, 50, 51, 52, 53, 54, 55, 56, 57]⟩ : ByteArray).extract d (d + 1) = ⟨#[UInt8.ofNat (48 + d)]⟩ := by
  have : d = 0 ∨ d = 1 ∨ d = 2 ∨ d = 3 ∨ d = 4 ∨ d = 5 ∨ d = 6 ∨ d = 7 ∨ d = 8 ∨ d = 9 := by omega
  rcases this with rfl | rfl | rfl | rfl | rfl | rfl | rfl | rfl | rfl | rfl <;> rfl
theorem app_dig (l : List UInt8) (b : UInt8) : (⟨l.toArray⟩ : ByteArray) ++ (⟨#[b]⟩ : ByteArray) = ⟨(l ++ [b]).toArray⟩ := by
  have e : ((⟨l.toArray⟩ : ByteArray) ++ (⟨#[b]⟩ : ByteArray)).data = (l ++ [b]).toArray := by
    rw [ByteArray.data_append]
    simp
  exact congrArg ByteArray.mk e
set_option maxRecDepth 100000 in
set_option maxHeartbeats 2000000 in
theorem r1Dec_all (N : Nat) : ∀ (n : Nat), n ≤ N → n ≤ 1000000 → ∀ w : World, Calls Tryz.prog 54 #[.int .i64 (n : Int)] w (fun e w' => e = .returned (.string ⟨(Lib.decDigits n).toArray⟩) ∧ w' = w) := by
  induction N with
  | zero =>
    intro n h1 h2 w
    obtain rfl : n = 0 := by omega
    go_enter Tryz.func54, Tryz.ntmps54
    go_wp2_with fail
    go_ret
    exact ⟨by kernel_rfl, rfl⟩
  | succ N ih =>
    intro n h1 h2 w
    obtain ⟨d, hd⟩ : ∃ d, d = n % 10 := ⟨_, rfl⟩
    obtain ⟨q, hq⟩ : ∃ q, q = n / 10 := ⟨_, rfl⟩
    have hd10 : d < 10 := by omega
    have hrem : ((n : Int)).tmod 10 = (d : Int) := by rw [hd]; exact (Int.ofNat_tmod n 10).symm
    have hquo : ((n : Int)).tdiv 10 = (q : Int) := by rw [hq]; exact (Int.ofNat_tdiv n 10).symm
    have HX := Lib.hid (dig_extract d hd10)
    by_cases hlt : n < 10
    · have HD : Hid (Lib.decDigits n = [UInt8.ofNat (48 + d)]) := Lib.hid (by rw [Lib.decDigits_one hlt]; have : d = n := by omega
                                                                              rw [this])
      clear hd hq
      go_enter Tryz.func54, Tryz.ntmps54
      go_wp2_with fail
      go_ret
      exact ⟨ret_str (by rw [HX.out, HD.out]), rfl⟩
    · have HD : Hid (Lib.decDigits n = Lib.decDigits q ++ [UInt8.ofNat (48 + d)]) := Lib.hid (by rw [Lib.decDigits, dif_neg hlt, hd, hq])
      have hqL : (Lib.decDigits q).length ≤ 21 := by have := Lib.itoa_length_le (q : Int) (by omega) (by omega); rwa [Lib.itoa, if_neg (by omega), Int.toNat_natCast] at this
      have hw64 : wrap64 (q : Int) = (q : Int) := by first | exact wrap64_of (by omega) (by omega) | (simp (disch := omega) only [IntWalk.i64_in]) | (unfold wrap64; omega)
      have HI := Lib.hid (ih q (by omega) (by omega))
      clear hd hq ih
      go_enter Tryz.func54, Tryz.ntmps54
      go_wp2_with fail
      rw [hw64]
      refine (HI.out _).mono ?_
      rintro e w1 ⟨rfl, rfl⟩
      go_wp2_with fail
      go_ret
      exact ⟨ret_str (by rw [HX.out, HD.out, app_dig]), rfl⟩
theorem r1Dec_any (n : Int) (hn : 0 ≤ n ∧ n ≤ 1000) (w : World) : Calls Tryz.prog 54 #[.int .i64 n] w (fun e w' => e = .returned (.string ⟨(Lib.itoa n).toArray⟩) ∧ w' = w) := by
  obtain ⟨k, rfl⟩ := Int.eq_ofNat_of_zero_le hn.1
  rw [Lib.itoa, if_neg (by omega), Int.toNat_natCast]
  exact r1Dec_all k k (Nat.le_refl _) (by omega) w
end Go.Proofs.YtpmnpnlfgfleeaaGreatDoor
namespace Go.Proofs.YtpmnpnlfgfleeaaGreatDoor
open Go Go.RowKit

theorem Lx.word_bytes (ts ro cl : ByteArray) (ik iw : List UInt8) : (ts ++ ⟨#[119, 111, 114, 100, 32]⟩ ++ ro ++ ⟨#[32]⟩ ++ ⟨ik.toArray⟩ ++ ⟨#[32]⟩ ++ cl ++ ⟨#[32]⟩ ++ ⟨iw.toArray⟩ ++ ⟨#[10]⟩ : ByteArray).data.toList = ts.data.toList ++ Lx.lineL [[119, 111, 114, 100], ro.data.toList, ik, cl.data.toList, iw] := by
  simp [_root_.Lx.lineL, Lib.join, List.intercalate]
theorem Lx.ending_bytes (ts tx nm : ByteArray) (ik iw : List UInt8) : (ts ++ ⟨#[101, 110, 100, 105, 110, 103, 32]⟩ ++ ⟨ik.toArray⟩ ++ ⟨#[32]⟩ ++ tx ++ ⟨#[32]⟩ ++ nm ++ ⟨#[32]⟩ ++ ⟨iw.toArray⟩ ++ ⟨#[10]⟩ : ByteArray).data.toList = ts.data.toList ++ Lx.lineL [[101, 110, 100, 105, 110, 103], ik, tx.data.toList, nm.data.toList, iw] := by
  simp [_root_.Lx.lineL, Lib.join, List.intercalate]
theorem Lx.clitic_bytes (ts tx nm : ByteArray) (iw : List UInt8) : (ts ++ ⟨#[99, 108, 105, 116, 105, 99, 32]⟩ ++ tx ++ ⟨#[32]⟩ ++ nm ++ ⟨#[32]⟩ ++ ⟨iw.toArray⟩ ++ ⟨#[10]⟩ : ByteArray).data.toList = ts.data.toList ++ Lx.lineL [[99, 108, 105, 116, 105, 99], tx.data.toList, nm.data.toList, iw] := by
  simp [_root_.Lx.lineL, Lib.join, List.intercalate]
set_option maxRecDepth 100000 in
set_option maxHeartbeats 4000000 in
theorem rFormat_any (v : Value) (x : Lx.Lexicon) (w : World) (hr : RdL w w.heap.size v x) : Calls Tryz.prog 24 #[v] w (RetFmt (Lx.formatV x) (Lx.checkV x) w) := by
  have HR := Lib.hid hr
  obtain ⟨⟨v0, v1, v2, rfl, hr0, hr1, hr2⟩, -, -, -⟩ := hr
  have HR0 := Lib.hid hr0
  have HR1 := Lib.hid hr1
  have HR2 := Lib.hid hr2
  obtain ⟨A0, c0, rfl, -⟩ := hr0
  obtain ⟨A1, c1, rfl, -⟩ := hr1
  obtain ⟨A2, c2, rfl, -⟩ := hr2
  have hal : Below w.heap.size w (w.alloc (.cells #[.slice A0 x.entries.length c0, .slice A1 x.endings.length c1, .slice A2 x.clitics.length c2] 26)) := (Below.refl _ _).alloc (Nat.le_refl _) _
  have HCK := Lib.hid (rCheck_any _ x _ ((HR.out.below hal).more hal.size))
  have HAL := Lib.hid hal
  have HIT := Lib.hid r1Dec_any
  clear hal
  go_enter Tryz.func24, Tryz.ntmps24
  go_wp2_with fail
  refine HCK.out.mono ?_
  rintro e1 w1 ⟨rfl, hb1⟩
  have hs1 : w.heap.size < w1.heap.size := by have := hb1.size; simp at this; omega
  have HX1 := Lib.hid ((hb1.block w.heap.size (by simp)).trans (heap_alloc_new w (.cells #[.slice A0 x.entries.length c0, .slice A1 x.endings.length c1, .slice A2 x.clitics.length c2] 26)))
  have HB1 := Lib.hid (HAL.out.trans (hb1.mono (by simp)))
  clear hb1
  obtain ⟨cv, hcv⟩ : ∃ n, n = Lx.checkV x := ⟨_, rfl⟩
  rw [← hcv]
  have HCV := Lib.hid hcv
  clear hcv
  by_cases hz : cv = 0
  · have HF := Lib.hid (Lx.fine_of (HCV.out.symm.trans hz))
    have HV : Hid (Lx.formatV x = Lx.fmtL x) := Lib.hid (by unfold Lx.formatV; rw [if_pos (HCV.out.symm.trans hz)])
    have hn0 : x.entries.length ≤ 200 := HF.out.n0
    have hn1 : x.endings.length ≤ 40 := HF.out.n1
    have hn2 : x.clitics.length ≤ 10 := HF.out.n2
    obtain ⟨p0, p1, p2⟩ := lex_cells HX1.out
    go_wp2_with fail
    go_loopg [6, 5] x.entries.length (fun g i s wr => ∃ (k : Nat) (ts : ByteArray), k ≤ x.entries.length ∧ g = x.entries.length - k ∧ s = .string ts ∧ i = .int .i64 k ∧ ts.data.toList = ((x.entries.take k).flatMap fun e => Lx.lineL (Lx.wordL e)) ∧ Below w1.heap.size w1 wr)
    case atStart => exact ⟨0, ⟨#[]⟩, Nat.zero_le _, rfl, rfl, rfl, rfl, Below.refl _ _⟩
    case round =>
      obtain ⟨k, ts, hk, rfl, rfl, rfl, hts, hbr⟩ := hrel
      have HTS := Lib.hid hts
      have HBR := Lib.hid hbr
      have hsr : w1.heap.size ≤ wr.heap.size := hbr.size
      have HWR : Hid (Below w.heap.size w wr) := Lib.hid (HB1.out.trans (hbr.mono (Nat.le_of_lt hs1)))
      clear hts hbr
      obtain ⟨p0, p1, p2⟩ := lex_cells ((HBR.out.block w.heap.size hs1).trans HX1.out)
      by_cases hlt : k < x.entries.length
      · obtain ⟨b, off, rfl, hb, hcell⟩ := HR0.out.ex0 (by omega)
        obtain ⟨e, he⟩ : ∃ e, e = x.entries[k] := ⟨_, rfl⟩
        have hk1 : x.entries[k]? = some e := by rw [he]; exact List.getElem?_eq_getElem hlt
        have HK := Lib.hid hk1
        have HE := Lib.hid (Lx.Entry.fine (HF.out.e0 e (List.mem_of_getElem? hk1)))
        have fg0 := (HWR.out.cell (p := ⟨b, off + k * 4, none⟩) hb).trans (by simpa using hcell k e hk1 0 _ rfl : w.cell? ⟨b, off + k * 4, none⟩ = some (.string e.root))
        have fg1 := (HWR.out.cell (p := ⟨b, off + k * 4 + 1, none⟩) hb).trans (hcell k e hk1 1 _ rfl)
        have fg2 := (HWR.out.cell (p := ⟨b, off + k * 4 + 2, none⟩) hb).trans (hcell k e hk1 2 _ rfl)
        have fg3 := (HWR.out.cell (p := ⟨b, off + k * 4 + 3, none⟩) hb).trans (hcell k e hk1 3 _ rfl)
        have hts8 : ts.size ≤ 50000 := by
          have h0 : ts.data.toList.length = ts.size := rfl
          rw [HTS.out] at h0
          have h1 := Lx.flat_take_len (f := fun e => Lx.lineL (Lx.wordL e)) (l := x.entries) k (fun a ha => Lx.word_len (Lx.Entry.fine (HF.out.e0 a ha))); omega
        clear he hk1 hcell
        go_upto_region 9 with fail
        obtain ⟨W0, hW0⟩ : ∃ W, W = wr.alloc (.cells #[.string e.root, .int .i64 e.kind, .string e.cls, .int .i64 e.weight] 57) := ⟨_, rfl⟩
        obtain ⟨eb, heb⟩ : ∃ e, e = wr.heap.size := ⟨_, rfl⟩
        have HBW : Hid (Below wr.heap.size wr W0) := Lib.hid (by rw [hW0]; exact (Below.refl _ _).alloc (Nat.le_refl _) _)
        have hEN : W0.heap[eb]? = some (.cells #[.string e.root, .int .i64 e.kind, .string e.cls, .int .i64 e.weight] 57 (0, 0)) := by rw [hW0, heb]; exact heap_alloc_new _ _
        have hE : eb < W0.heap.size := by rw [hW0, heb]; simp
        have HBR0 : Hid (Below w1.heap.size w1 W0) := Lib.hid (HBR.out.trans (HBW.out.mono (by omega)))
        obtain ⟨m0, m1, m2, m3⟩ := four_cells hEN
        rw [← hW0, ← heb]
        clear hW0 heb hEN fg0 fg1 fg2 fg3
        have hwt : 0 ≤ e.weight ∧ e.weight ≤ 1000 := HE.out.w
        have hiwl : (Lib.itoa e.weight).length ≤ 21 := Lx.itoa_len hwt
        have hkd : 0 ≤ e.kind ∧ e.kind ≤ 1000 := ⟨by have := HE.out.k; omega, by have := HE.out.k; omega⟩
        have hikl : (Lib.itoa e.kind).length ≤ 21 := Lx.itoa_len hkd
        have hro : e.root.size ≤ 8 := HE.out.r.2
        have hcl8 : e.cls.size ≤ 8 := HE.out.c
        cases hc : e.cls.toList.isEmpty
        · have HD := Lib.hid (Lx.dashB_out hc)
          go_upto_region 12 with fail
          go_quiet ((go_at_call 54; exact Calls.quiet_of_same (HIT.out _ (by assumption) _)))
          go_wp2_with fail
          go_roundg (x.entries.length - (k + 1))
          case measure => omega
          case rel => exact ⟨k + 1, _, by omega, rfl, rfl, by go_num, by rw [Lx.word_bytes, Lx.flat_take HK.out, HTS.out]; unfold _root_.Lx.wordL; rw [HD.out], below_drewN HBR0.out _⟩
        · have HD := Lib.hid (Lx.dashB_in hc)
          go_upto_region 12 with fail
          go_quiet ((go_at_call 54; exact Calls.quiet_of_same (HIT.out _ (by assumption) _)))
          go_wp2_with fail
          go_roundg (x.entries.length - (k + 1))
          case measure => omega
          case rel => exact ⟨k + 1, _, by omega, rfl, rfl, by go_num, by rw [Lx.word_bytes _ _ ⟨#[45]⟩, Lx.flat_take HK.out, HTS.out]; unfold _root_.Lx.wordL; rw [HD.out], below_drewN HBR0.out _⟩
      · have hke : k = x.entries.length := by omega
        have hnI : ¬ (k : Int) < (x.entries.length : Int) := by omega
        have hP : ts.data.toList = (x.entries.flatMap fun e => Lx.lineL (Lx.wordL e)) := by have q := HTS.out; rw [List.take_of_length_le (by omega)] at q; exact q
        obtain ⟨P1, hP1⟩ : ∃ P, P = (x.entries.flatMap fun e => Lx.lineL (Lx.wordL e)) := ⟨_, rfl⟩
        rw [← hP1] at hP
        have HP1 := Lib.hid hP1
        have HTP1 := Lib.hid hP
        have HPL1 : Hid (P1.length ≤ 24000) := Lib.hid (by rw [hP1]; have h1 := Lx.flat_len (f := fun e => Lx.lineL (Lx.wordL e)) (l := x.entries) (fun a ha => Lx.word_len (Lx.Entry.fine (HF.out.e0 a ha))); omega)
        clear hP hP1
        go_wp2_with fail
        go_loopg [9, 5] x.endings.length (fun g i s wr => ∃ (k : Nat) (ts : ByteArray), k ≤ x.endings.length ∧ g = x.endings.length - k ∧ s = .string ts ∧ i = .int .i64 k ∧ ts.data.toList = (P1 ++ (x.endings.take k).flatMap fun e => Lx.lineL (Lx.endingL e)) ∧ Below w1.heap.size w1 wr)
        case atStart => exact ⟨0, ts, Nat.zero_le _, rfl, rfl, rfl, by rw [HTP1.out]; simp, HBR.out⟩
        case round =>
          obtain ⟨k, ts, hk, rfl, rfl, rfl, hts, hbr⟩ := hrel
          have HTS := Lib.hid hts
          have HBR := Lib.hid hbr
          have hsr : w1.heap.size ≤ wr.heap.size := hbr.size
          have HWR : Hid (Below w.heap.size w wr) := Lib.hid (HB1.out.trans (hbr.mono (Nat.le_of_lt hs1)))
          clear hts hbr
          obtain ⟨p0, p1, p2⟩ := lex_cells ((HBR.out.block w.heap.size hs1).trans HX1.out)
          by_cases hlt : k < x.endings.length
          · obtain ⟨b, off, rfl, hb, hcell⟩ := HR1.out.ex0 (by omega)
            obtain ⟨e, he⟩ : ∃ e, e = x.endings[k] := ⟨_, rfl⟩
            have hk1 : x.endings[k]? = some e := by rw [he]; exact List.getElem?_eq_getElem hlt
            have HK := Lib.hid hk1
            have HE := Lib.hid (Lx.Ending.fine (HF.out.e1 e (List.mem_of_getElem? hk1)))
            have fg0 := (HWR.out.cell (p := ⟨b, off + k * 4, none⟩) hb).trans (by simpa using hcell k e hk1 0 _ rfl : w.cell? ⟨b, off + k * 4, none⟩ = some (.int .i64 e.kind))
            have fg1 := (HWR.out.cell (p := ⟨b, off + k * 4 + 1, none⟩) hb).trans (hcell k e hk1 1 _ rfl)
            have fg2 := (HWR.out.cell (p := ⟨b, off + k * 4 + 2, none⟩) hb).trans (hcell k e hk1 2 _ rfl)
            have fg3 := (HWR.out.cell (p := ⟨b, off + k * 4 + 3, none⟩) hb).trans (hcell k e hk1 3 _ rfl)
            have hts8 : ts.size ≤ 50000 := by
              have h0 : ts.data.toList.length = ts.size := rfl
              rw [HTS.out] at h0
              rw [List.length_append] at h0; have h3 := HPL1.out; have h1 := Lx.flat_take_len (f := fun e => Lx.lineL (Lx.endingL e)) (l := x.endings) k (fun a ha => Lx.ending_len (Lx.Ending.fine (HF.out.e1 a ha))); omega
            clear he hk1 hcell
            go_upto_region 17 with fail
            obtain ⟨W0, hW0⟩ : ∃ W, W = wr.alloc (.cells #[.int .i64 e.kind, .string e.text, .string e.name, .int .i64 e.weight] 55) := ⟨_, rfl⟩
            obtain ⟨eb, heb⟩ : ∃ e, e = wr.heap.size := ⟨_, rfl⟩
            have HBW : Hid (Below wr.heap.size wr W0) := Lib.hid (by rw [hW0]; exact (Below.refl _ _).alloc (Nat.le_refl _) _)
            have hEN : W0.heap[eb]? = some (.cells #[.int .i64 e.kind, .string e.text, .string e.name, .int .i64 e.weight] 55 (0, 0)) := by rw [hW0, heb]; exact heap_alloc_new _ _
            have hE : eb < W0.heap.size := by rw [hW0, heb]; simp
            have HBR0 : Hid (Below w1.heap.size w1 W0) := Lib.hid (HBR.out.trans (HBW.out.mono (by omega)))
            obtain ⟨m0, m1, m2, m3⟩ := four_cells hEN
            rw [← hW0, ← heb]
            clear hW0 heb hEN fg0 fg1 fg2 fg3
            have hwt : 0 ≤ e.weight ∧ e.weight ≤ 1000 := HE.out.w
            have hiwl : (Lib.itoa e.weight).length ≤ 21 := Lx.itoa_len hwt
            have hkd : 0 ≤ e.kind ∧ e.kind ≤ 1000 := ⟨by have := HE.out.k; omega, by have := HE.out.k; omega⟩
            have hikl : (Lib.itoa e.kind).length ≤ 21 := Lx.itoa_len hkd
            have htx : e.text.size ≤ 4 := HE.out.t.2
            have hnm : e.name.size ≤ 8 := HE.out.n.2
            go_upto_region 17 with fail
            go_quiet ((go_at_call 54; exact Calls.quiet_of_same (HIT.out _ (by assumption) _)))
            go_wp2_with fail
            go_roundg (x.endings.length - (k + 1))
            case measure => omega
            case rel => exact ⟨k + 1, _, by omega, rfl, rfl, by go_num, by rw [Lx.ending_bytes, Lx.flat_take HK.out, ← List.append_assoc, HTS.out]; unfold _root_.Lx.endingL; rfl, below_drewN HBR0.out _⟩
          · have hke : k = x.endings.length := by omega
            have hnI : ¬ (k : Int) < (x.endings.length : Int) := by omega
            have hP : ts.data.toList = (P1 ++ x.endings.flatMap fun e => Lx.lineL (Lx.endingL e)) := by have q := HTS.out; rw [List.take_of_length_le (by omega)] at q; exact q
            obtain ⟨P2, hP1⟩ : ∃ P, P = (P1 ++ x.endings.flatMap fun e => Lx.lineL (Lx.endingL e)) := ⟨_, rfl⟩
            rw [← hP1] at hP
            have HP2 := Lib.hid hP1
            have HTP2 := Lib.hid hP
            have HPL2 : Hid (P2.length ≤ 30000) := Lib.hid (by rw [hP1]; rw [List.length_append]; have h3 := HPL1.out; have h1 := Lx.flat_len (f := fun e => Lx.lineL (Lx.endingL e)) (l := x.endings) (fun a ha => Lx.ending_len (Lx.Ending.fine (HF.out.e1 a ha))); omega)
            clear hP hP1
            go_wp2_with fail
            go_loopg [11, 5] x.clitics.length (fun g i s wr => ∃ (k : Nat) (ts : ByteArray), k ≤ x.clitics.length ∧ g = x.clitics.length - k ∧ s = .string ts ∧ i = .int .i64 k ∧ ts.data.toList = (P2 ++ (x.clitics.take k).flatMap fun e => Lx.lineL (Lx.cliticL e)) ∧ Below w1.heap.size w1 wr)
            case atStart => exact ⟨0, ts, Nat.zero_le _, rfl, rfl, rfl, by rw [HTP2.out]; simp, HBR.out⟩
            case round =>
              obtain ⟨k, ts, hk, rfl, rfl, rfl, hts, hbr⟩ := hrel
              have HTS := Lib.hid hts
              have HBR := Lib.hid hbr
              have hsr : w1.heap.size ≤ wr.heap.size := hbr.size
              have HWR : Hid (Below w.heap.size w wr) := Lib.hid (HB1.out.trans (hbr.mono (Nat.le_of_lt hs1)))
              clear hts hbr
              obtain ⟨p0, p1, p2⟩ := lex_cells ((HBR.out.block w.heap.size hs1).trans HX1.out)
              by_cases hlt : k < x.clitics.length
              · obtain ⟨b, off, rfl, hb, hcell⟩ := HR2.out.ex0 (by omega)
                obtain ⟨e, he⟩ : ∃ e, e = x.clitics[k] := ⟨_, rfl⟩
                have hk1 : x.clitics[k]? = some e := by rw [he]; exact List.getElem?_eq_getElem hlt
                have HK := Lib.hid hk1
                have HE := Lib.hid (Lx.Clitic.fine (HF.out.e2 e (List.mem_of_getElem? hk1)))
                have fg0 := (HWR.out.cell (p := ⟨b, off + k * 3, none⟩) hb).trans (by simpa using hcell k e hk1 0 _ rfl : w.cell? ⟨b, off + k * 3, none⟩ = some (.string e.text))
                have fg1 := (HWR.out.cell (p := ⟨b, off + k * 3 + 1, none⟩) hb).trans (hcell k e hk1 1 _ rfl)
                have fg2 := (HWR.out.cell (p := ⟨b, off + k * 3 + 2, none⟩) hb).trans (hcell k e hk1 2 _ rfl)
                have hts8 : ts.size ≤ 50000 := by
                  have h0 : ts.data.toList.length = ts.size := rfl
                  rw [HTS.out] at h0
                  rw [List.length_append] at h0; have h3 := HPL2.out; have h1 := Lx.flat_take_len (f := fun e => Lx.lineL (Lx.cliticL e)) (l := x.clitics) k (fun a ha => Lx.clitic_len (Lx.Clitic.fine (HF.out.e2 a ha))); omega
                clear he hk1 hcell
                go_upto_region 22 with fail
                obtain ⟨W0, hW0⟩ : ∃ W, W = wr.alloc (.cells #[.string e.text, .string e.name, .int .i64 e.weight] 65) := ⟨_, rfl⟩
                obtain ⟨eb, heb⟩ : ∃ e, e = wr.heap.size := ⟨_, rfl⟩
                have HBW : Hid (Below wr.heap.size wr W0) := Lib.hid (by rw [hW0]; exact (Below.refl _ _).alloc (Nat.le_refl _) _)
                have hEN : W0.heap[eb]? = some (.cells #[.string e.text, .string e.name, .int .i64 e.weight] 65 (0, 0)) := by rw [hW0, heb]; exact heap_alloc_new _ _
                have hE : eb < W0.heap.size := by rw [hW0, heb]; simp
                have HBR0 : Hid (Below w1.heap.size w1 W0) := Lib.hid (HBR.out.trans (HBW.out.mono (by omega)))
                obtain ⟨m0, m1, m2⟩ := three_cells hEN
                rw [← hW0, ← heb]
                clear hW0 heb hEN fg0 fg1 fg2
                have hwt : 0 ≤ e.weight ∧ e.weight ≤ 1000 := HE.out.w
                have hiwl : (Lib.itoa e.weight).length ≤ 21 := Lx.itoa_len hwt
                have htx : e.text.size ≤ 4 := HE.out.t.2
                have hnm : e.name.size ≤ 8 := HE.out.n.2
                go_upto_region 22 with fail
                go_quiet ((go_at_call 54; exact Calls.quiet_of_same (HIT.out _ (by assumption) _)))
                go_wp2_with fail
                go_roundg (x.clitics.length - (k + 1))
                case measure => omega
                case rel => exact ⟨k + 1, _, by omega, rfl, rfl, by go_num, by rw [Lx.clitic_bytes, Lx.flat_take HK.out, ← List.append_assoc, HTS.out]; unfold _root_.Lx.cliticL; rfl, below_drewN HBR0.out _⟩
              · have hke : k = x.clitics.length := by omega
                have hnI : ¬ (k : Int) < (x.clitics.length : Int) := by omega
                have hP : ts.data.toList = (P2 ++ x.clitics.flatMap fun e => Lx.lineL (Lx.cliticL e)) := by have q := HTS.out; rw [List.take_of_length_le (by omega)] at q; exact q
                obtain ⟨P3, hP1⟩ : ∃ P, P = (P2 ++ x.clitics.flatMap fun e => Lx.lineL (Lx.cliticL e)) := ⟨_, rfl⟩
                rw [← hP1] at hP
                have HP3 := Lib.hid hP1
                have HTP3 := Lib.hid hP
                have HPL3 : Hid (P3.length ≤ 40000) := Lib.hid (by rw [hP1]; rw [List.length_append]; have h3 := HPL2.out; have h1 := Lx.flat_len (f := fun e => Lx.lineL (Lx.cliticL e)) (l := x.clitics) (fun a ha => Lx.clitic_len (Lx.Clitic.fine (HF.out.e2 a ha))); omega)
                clear hP hP1
                go_wp2_with fail
                go_ret2
                exact ⟨ts, by rw [← HCV.out, hz]; rfl, by rw [HV.out, HTP3.out, HP3.out, HP2.out, HP1.out]; unfold _root_.Lx.fmtL; rw [List.append_assoc], HWR.out⟩
  · have HV : Hid (Lx.formatV x = []) := Lib.hid (by unfold Lx.formatV; rw [if_neg fun e => hz (HCV.out.trans e)])
    go_wp2_with fail
    go_ret2
    exact ⟨⟨#[]⟩, by rw [HCV.out]; rfl, HV.out.symm, HB1.out⟩
end Go.Proofs.YtpmnpnlfgfleeaaGreatDoor
