/- ostraconref01.Format. SignsFormats: the law's walk. Made by gen_sglaw14.py. -/
import Derived.Test.YtkmimjngmfdpmaaGreatDoorMmSgNamedPlain
import Derived.Test.YtkmimjngmfdpmaaGreatDoorMmSgFmtStep
import Derived.Test.YtkmimjngmfdpmaaGreatDoorMgSgRCheck
import Derived.Test.YtkmimjngmfdpmaaGreatDoorMhRDec
import Derived.BigQuiet
import Derived.Test.YtkmimjngmfdpmaaGreatDoorMmSgFormat
import Derived.Test.YtkmimjngmfdpmaaGreatDoorMgSgCopy
import Derived.Test.YtkmimjngmfdpmaaGreatDoorMgSgSame
import Derived.Test.YtkmimjngmfdpmaaGreatDoorMgShelfF
import Derived.Test.YtkmimjngmfdpmaaGreatDoorMgSgWorks
namespace Go.Proofs.YtkmimjngmfdpmaaGreatDoor
open Go Go.RowKit

theorem Sg.headR_bytes (p : List UInt8) : ((⟨#[112, 101, 114, 105, 111, 100, 115, 32]⟩ : ByteArray) ++ ⟨p.toArray⟩ ++ (⟨#[10]⟩ : ByteArray)).data.toList = Sg.perB ++ 32 :: (p ++ [10]) := by
  simp [Sg.perB]
theorem Sg.sizeR_bytes (ts c : ByteArray) (a b : List UInt8) : (ts ++ c ++ (⟨#[32]⟩ : ByteArray) ++ ⟨a.toArray⟩ ++ (⟨#[120]⟩ : ByteArray) ++ ⟨b.toArray⟩).data.toList = ts.data.toList ++ (c.data.toList ++ 32 :: (a ++ 120 :: b)) := by
  simp
theorem Sg.valueR_bytes (ts : ByteArray) (k : UInt8) (t : ByteArray) (a b : List UInt8) : (ts ++ (⟨#[32]⟩ : ByteArray) ++ (⟨#[k]⟩ : ByteArray) ++ (⟨#[58]⟩ : ByteArray) ++ t ++ (⟨#[64]⟩ : ByteArray) ++ ⟨a.toArray⟩ ++ (⟨#[45]⟩ : ByteArray) ++ ⟨b.toArray⟩).data.toList = ts.data.toList ++ 32 :: k :: 58 :: (t.data.toList ++ 64 :: (a ++ 45 :: b)) := by
  simp
theorem Sg.app_bytes (ts : ByteArray) (l : List UInt8) : (ts ++ ⟨l.toArray⟩ : ByteArray).data.toList = ts.data.toList ++ l := by simp
theorem cells5 {w : World} {b : Nat} {v0 v1 v2 v3 v4 : Value} {t : TypeId} (h : w.heap[b]? = some (.cells #[v0, v1, v2, v3, v4] t (0, 0))) :
    w.cell? ⟨b, 0, none⟩ = some v0 ∧ w.cell? ⟨b, 1, none⟩ = some v1 ∧ w.cell? ⟨b, 2, none⟩ = some v2 ∧ w.cell? ⟨b, 3, none⟩ = some v3 ∧ w.cell? ⟨b, 4, none⟩ = some v4 :=
  ⟨by simp [World.cell?, h], by simp [World.cell?, h], by simp [World.cell?, h], by simp [World.cell?, h], by simp [World.cell?, h]⟩
theorem cells4 {w : World} {b : Nat} {v0 v1 v2 v3 : Value} {t : TypeId} (h : w.heap[b]? = some (.cells #[v0, v1, v2, v3] t (0, 0))) :
    w.cell? ⟨b, 0, none⟩ = some v0 ∧ w.cell? ⟨b, 1, none⟩ = some v1 ∧ w.cell? ⟨b, 2, none⟩ = some v2 ∧ w.cell? ⟨b, 3, none⟩ = some v3 :=
  ⟨by simp [World.cell?, h], by simp [World.cell?, h], by simp [World.cell?, h], by simp [World.cell?, h]⟩
theorem Sg.swc_extract {q : Nat} {k : Int} (h : k = (q : Int)) (hk : k = 1 ∨ k = 2 ∨ k = 3) : (⟨#[32, 115, 119, 99]⟩ : ByteArray).extract q (q + 1) = ⟨#[Sg.kindL k]⟩ := by
  subst h
  have : q = 1 ∨ q = 2 ∨ q = 3 := by omega
  rcases this with rfl | rfl | rfl <;> rfl
set_option maxRecDepth 100000 in
set_option maxHeartbeats 16000000 in
theorem r1Format_any (v : Value) (l : Sg.SList) (w : World) (hr : RdSL w w.heap.size v l) : Calls Tryz.prog 40 #[v] w (RetFmt (Sg.formatV l) (Sg.checkV l) w) := by
  have HRL := Lib.hid hr
  obtain ⟨⟨u, rfl, hgl⟩, -⟩ := hr
  obtain ⟨A0, c0, rfl⟩ := hgl.form
  have HG0 := Lib.hid hgl
  have HIT := Lib.hid r1Dec_any
  obtain ⟨W1, hW1⟩ : ∃ W1, W1 = w.alloc (.cells #[.int .i64 l.periods, .slice A0 l.signs.length c0] 24) := ⟨_, rfl⟩
  have hb1 : Below w.heap.size w W1 := by rw [hW1]; exact (Below.refl _ _).alloc (Nat.le_refl _) _
  have hX : W1.heap[w.heap.size]? = some (.cells #[.int .i64 l.periods, .slice A0 l.signs.length c0] 24 (0, 0)) := by rw [hW1]; exact heap_alloc_new _ _
  have hs1 : w.heap.size < W1.heap.size := (Array.getElem?_eq_some_iff.1 hX).1
  have x0 : W1.cell? ⟨w.heap.size, 0, none⟩ = some (.int .i64 l.periods) := by simp [World.cell?, hX]
  have x1 : W1.cell? ⟨w.heap.size, 1, none⟩ = some (.slice A0 l.signs.length c0) := by simp [World.cell?, hX]
  have HB1 := Lib.hid hb1
  have HW1 := Lib.hid hW1
  have HX1 := Lib.hid hX
  have HCK := Lib.hid (r1Check_any _ l W1 (HRL.out.on hb1))
  obtain ⟨e1, he1⟩ : ∃ e1, e1 = Sg.checkV l := ⟨_, rfl⟩
  have HE1 := Lib.hid he1
  rw [← he1] at HCK ⊢
  obtain ⟨res, hres⟩ : ∃ r, r = Sg.formatV l := ⟨_, rfl⟩
  have HRES := Lib.hid hres
  rw [← hres]
  clear hgl hW1 hb1 hX he1 hres
  go_enter Tryz.func40, Tryz.ntmps40
  go_upto_region 1 with fail
  rw [← HW1.out]
  go_wp2_with fail
  refine HCK.out.mono ?_
  rintro e w2 ⟨rfl, hb2⟩
  have HB2 := Lib.hid (HB1.out.trans (hb2.mono (by omega)))
  have hx2 := (hb2.block w.heap.size hs1).trans HX1.out
  have hs2 : w.heap.size < w2.heap.size := (Array.getElem?_eq_some_iff.1 hx2).1
  have HX2 := Lib.hid hx2
  clear hb2 x0 x1
  by_cases h0 : e1 = 0
  case neg =>
    have HN : Hid (res = []) := Lib.hid (by rw [HRES.out]; unfold Sg.formatV; rw [if_neg (by rw [← HE1.out]; exact h0)])
    clear hx2
    go_wp2_with fail
    go_ret2
    exact ⟨⟨#[]⟩, rfl, HN.out.symm, HB2.out⟩
  subst h0
  have HCL : Hid (Sg.checkV l = 0) := Lib.hid HE1.out.symm
  have HN : Hid (res = Sg.fmtL l) := Lib.hid (by rw [HRES.out]; unfold Sg.formatV; rw [if_pos HCL.out])
  have HFN := Lib.hid (Sg.fineS HCL.out)
  have hsl : l.signs.length ≤ 200 := HFN.out.2.1
  have hpe : 0 ≤ l.periods ∧ l.periods ≤ 1000 := by have := HFN.out.1; omega
  have HZ0 := Lib.hid (Sg.fmtP_zero l)
  have hip : (Lib.itoa l.periods).length ≤ 1 := Sg.itoa_one (by have := HFN.out.1; omega)
  have x0 : w2.cell? ⟨w.heap.size, 0, none⟩ = some (.int .i64 l.periods) := by simp [World.cell?, hx2]
  have CX : Hid (∀ W, Below w2.heap.size w2 W → W.cell? ⟨w.heap.size, 1, none⟩ = some (.slice A0 l.signs.length c0)) := Lib.hid fun W hW => by
    have p := (hW.block _ hs2).trans HX2.out
    simp [World.cell?, p]
  clear hx2
  go_wp2_with fail
  refine (HIT.out _ (by assumption) _).mono ?_
  rintro e w3 ⟨rfl, rfl⟩
  rename World => w2
  have HZB : Hid ((((⟨#[112, 101, 114, 105, 111, 100, 115, 32]⟩ : ByteArray) ++ ⟨(Lib.itoa l.periods).toArray⟩ ++ (⟨#[10]⟩ : ByteArray))).data.toList = Sg.fmtP l 0) := Lib.hid (by rw [Sg.headR_bytes, ← HZ0.out])
  go_wp2_with fail
  clear x0
  go_loopg [5, 6] l.signs.length (fun g s i wr => ∃ (k : Nat) (ts : ByteArray), k ≤ l.signs.length ∧ g = l.signs.length - k ∧ s = .string ts ∧ i = .int .i64 k ∧ ts.data.toList = Sg.fmtP l k ∧ Below w2.heap.size w2 wr)
  case atStart => exact ⟨0, _, Nat.zero_le _, rfl, rfl, rfl, HZB.out, Below.refl _ _⟩
  case round =>
    obtain ⟨k, ts, hk, rfl, rfl, rfl, hts, hbr⟩ := hrel
    rename World => wk
    have HTS := Lib.hid hts
    have HBR := Lib.hid hbr
    have hsr : w2.heap.size ≤ wk.heap.size := hbr.size
    have HWR : Hid (Below w.heap.size w wk) := Lib.hid (HB2.out.trans (hbr.mono (Nat.le_of_lt hs2)))
    have htz : ts.size ≤ 60000 := by
      have h0 : ts.data.toList.length = ts.size := rfl
      have h1 := Sg.fmtP_len HCL.out k
      rw [← hts] at h1
      omega
    have x1 := CX.out wk hbr
    clear hts hbr
    by_cases hlt : k < l.signs.length
    · obtain ⟨b, off, rfl, hb, hcell⟩ := HG0.out.five (by omega)
      obtain ⟨s, hs⟩ : ∃ s, l.signs[k]? = some s := ⟨_, List.getElem?_eq_getElem hlt⟩
      obtain ⟨uv, hrd, g0, g1, g2, g3, g4⟩ := hcell k s hs
      have f0 := (HWR.out.cell (p := ⟨b, off + k * 5, none⟩) hb).trans g0
      have f1 := (HWR.out.cell (p := ⟨b, off + k * 5 + 1, none⟩) hb).trans g1
      have f2 := (HWR.out.cell (p := ⟨b, off + k * 5 + 2, none⟩) hb).trans g2
      have f3 := (HWR.out.cell (p := ⟨b, off + k * 5 + 3, none⟩) hb).trans g3
      have f4 := (HWR.out.cell (p := ⟨b, off + k * 5 + 4, none⟩) hb).trans g4
      obtain ⟨A2, c2, rfl, hvc, hvm⟩ := rds_form hrd.rds
      have HRD := Lib.hid hrd
      have HS := Lib.hid hs
      have HSF := Lib.hid (HFN.out.2.2 s (List.mem_of_getElem? hs))
      have hsn : s.values.length ≤ 12 := HSF.out.n
      have hkI : (0 : Int) ≤ (k : Int) := by omega
      have hkJ : (k : Int) < (l.signs.length : Int) := by omega
      clear hcell hs g0 g1 g2 g3 g4 hrd
      go_upto_region 9 with fail
      obtain ⟨W0, hW0⟩ : ∃ W, W = wk.alloc (.cells #[.string s.code, .int .i64 s.wide, .int .i64 s.high, .bool s.even, .slice A2 s.values.length c2] 67) := ⟨_, rfl⟩
      obtain ⟨eb, heb⟩ : ∃ e, e = wk.heap.size := ⟨_, rfl⟩
      have HBW : Hid (Below wk.heap.size wk W0) := Lib.hid (by rw [hW0]; exact (Below.refl _ _).alloc (Nat.le_refl _) _)
      have HEN : Hid (W0.heap[eb]? = some (.cells #[.string s.code, .int .i64 s.wide, .int .i64 s.high, .bool s.even, .slice A2 s.values.length c2] 67 (0, 0))) := Lib.hid (by rw [hW0, heb]; exact heap_alloc_new _ _)
      have hE : eb < W0.heap.size := by rw [hW0, heb]; simp
      have HW0 := Lib.hid (HWR.out.trans (HBW.out.mono HWR.out.size))
      have HBR0 : Hid (Below w2.heap.size w2 W0) := Lib.hid (HBR.out.trans (HBW.out.mono (by omega)))
      rw [← hW0, ← heb]
      obtain ⟨l0, hl0⟩ : ∃ l0, l0 = Sg.fmtP l k := ⟨_, rfl⟩
      have HLN := Lib.hid hl0
      have HL0 : Hid (ts.data.toList = l0) := Lib.hid (by rw [hl0]; exact HTS.out)
      have hcz : s.code.size ≤ 8 := (Sg.code_all HSF.out.c).2.2
      have hwd : 0 ≤ s.wide ∧ s.wide ≤ 1000 := by have := HSF.out.w; omega
      have hhg : 0 ≤ s.high ∧ s.high ≤ 1000 := by have := HSF.out.h; omega
      have hiw0 : (Lib.itoa s.wide).length ≤ 2 := Sg.itoa_two (by have := HSF.out.w; omega)
      have hih0 : (Lib.itoa s.high).length ≤ 2 := Sg.itoa_two (by have := HSF.out.h; omega)
      have HLP := Lib.hid (Sg.sizeR_bytes ts s.code (Lib.itoa s.wide) (Lib.itoa s.high))
      have HZL := Lib.hid (Sg.lineP_len HSF.out 0)
      have HZE : Hid (s.even = true → Sg.lineP s 0 = s.code.data.toList ++ 32 :: (Lib.itoa s.wide ++ 120 :: Lib.itoa s.high) ++ [32, 61]) := Lib.hid Sg.lineP_even
      have HZO : Hid (s.even = false → Sg.lineP s 0 = s.code.data.toList ++ 32 :: (Lib.itoa s.wide ++ 120 :: Lib.itoa s.high)) := Lib.hid Sg.lineP_odd
      obtain ⟨m0, m1, m2, m3, m4⟩ := cells5 HEN.out
      clear hl0 hW0 heb f0 f1 f2 f3 f4 x1
      go_quiet ((go_at_call 55; exact Calls.quiet_of_same (HIT.out _ (by assumption) _)))
      go_upto_if 47 with fail
      go_cut [5] (fun t wc => ∃ tz : ByteArray, t = .string tz ∧ tz.data.toList = l0 ++ Sg.lineP s 0 ∧ Below W0.heap.size W0 wc)
      case first =>
        cases hev : s.even
        · have HV := Lib.hid (HZO.out hev)
          rw [hev] at m3
          go_wp2_with fail
          go_meet
          exact ⟨_, rfl, by rw [HLP.out, HL0.out, HV.out], below_drewN (Below.refl _ _) _⟩
        · have HV := Lib.hid (HZE.out hev)
          rw [hev] at m3
          go_wp2_with fail
          go_meet
          exact ⟨_, rfl, by rw [Sg.app_bytes _ [32, 61], HLP.out, HL0.out, HV.out, List.append_assoc], below_drewN (Below.refl _ _) _⟩
      case rest =>
        obtain ⟨tz, rfl, htz', hbc⟩ := hcut
        have HTZ := Lib.hid htz'
        have HBC := Lib.hid hbc
        clear htz' hbc m0 m1 m2 m3 m4 hcz hwd hhg hiw0 hih0
        go_wp2_with fail
        go_loopg [5, 8] s.values.length (fun g t i wr => ∃ (j : Nat) (ty : ByteArray), j ≤ s.values.length ∧ g = s.values.length - j ∧ t = .string ty ∧ i = .int .i64 j ∧ ty.data.toList = l0 ++ Sg.lineP s j ∧ Below W0.heap.size W0 wr)
        case atStart => exact ⟨0, tz, Nat.zero_le _, rfl, rfl, rfl, HTZ.out, HBC.out⟩
        case round =>
          obtain ⟨j, ty, hj, rfl, rfl, rfl, hty, hbj⟩ := hrel
          rename World => wj
          have HTY := Lib.hid hty
          have HBJ := Lib.hid hbj
          have hsj : W0.heap.size ≤ wj.heap.size := hbj.size
          have HWJ : Hid (Below w.heap.size w wj) := Lib.hid (HW0.out.trans (hbj.mono HW0.out.size))
          have htyz : ty.size ≤ 61000 := by
            have h0 : ty.data.toList.length = ty.size := rfl
            have h1 := Sg.lineP_len HSF.out j
            have h2 : l0.length ≤ 60000 := by rw [HLN.out]; exact Sg.fmtP_len HCL.out k
            rw [hty, List.length_append] at h0
            omega
          obtain ⟨-, -, -, -, m4⟩ := cells5 ((hbj.block eb hE).trans HEN.out)
          clear hty hbj
          by_cases hjl : j < s.values.length
          · obtain ⟨b2, off2, rfl, hb2, hcell⟩ := HRD.out.four (by omega)
            obtain ⟨x, hx⟩ : ∃ x, s.values[j]? = some x := ⟨_, List.getElem?_eq_getElem hjl⟩
            obtain ⟨g0, g1, g2, g3⟩ := hcell j x hx
            have HXF := Lib.hid (HSF.out.vs x (List.mem_of_getElem? hx))
            obtain ⟨q, hq⟩ : ∃ q : Nat, x.kind = (q : Int) := Int.eq_ofNat_of_zero_le (by have := HXF.out.k; omega)
            have HEX := Lib.hid (Sg.swc_extract hq HXF.out.k)
            have hq3 : q ≤ 3 := by have := HXF.out.k; omega
            have HVP := Lib.hid (Sg.valueR_bytes ty (Sg.kindL x.kind) x.text (Lib.itoa x.lo) (Lib.itoa x.hi))
            have HVW : Hid (32 :: Sg.kindL x.kind :: 58 :: (x.text.data.toList ++ 64 :: (Lib.itoa x.lo ++ 45 :: Lib.itoa x.hi)) = 32 :: Sg.valW x) := Lib.hid rfl
            rw [hq] at g0
            generalize Sg.kindL x.kind = kb at HEX HVP HVW
            have f0 := (HWJ.out.cell (p := ⟨b2, off2 + j * 4, none⟩) hb2).trans g0
            have f1 := (HWJ.out.cell (p := ⟨b2, off2 + j * 4 + 1, none⟩) hb2).trans g1
            have f2 := (HWJ.out.cell (p := ⟨b2, off2 + j * 4 + 2, none⟩) hb2).trans g2
            have f3 := (HWJ.out.cell (p := ⟨b2, off2 + j * 4 + 3, none⟩) hb2).trans g3
            have HXJ := Lib.hid hx
            have hjI : (0 : Int) ≤ (j : Int) := by omega
            have hjJ : (j : Int) < (s.values.length : Int) := by omega
            clear hcell hx g0 g1 g2 g3 hq
            go_upto_region 16 with fail
            obtain ⟨V0, hV0⟩ : ∃ W, W = wj.alloc (.cells #[.int .i64 (q : Int), .string x.text, .int .i64 x.lo, .int .i64 x.hi] 60) := ⟨_, rfl⟩
            obtain ⟨vb, hvb⟩ : ∃ e, e = wj.heap.size := ⟨_, rfl⟩
            have HBV : Hid (Below wj.heap.size wj V0) := Lib.hid (by rw [hV0]; exact (Below.refl _ _).alloc (Nat.le_refl _) _)
            have hEN : V0.heap[vb]? = some (.cells #[.int .i64 (q : Int), .string x.text, .int .i64 x.lo, .int .i64 x.hi] 60 (0, 0)) := by rw [hV0, hvb]; exact heap_alloc_new _ _
            obtain ⟨n0, n1, n2, n3⟩ := cells4 hEN
            have HBX : Hid (Below W0.heap.size W0 V0) := Lib.hid (HBJ.out.trans (HBV.out.mono (by omega)))
            rw [← hV0, ← hvb]
            have hxz : x.text.size ≤ 8 := (Sg.text_all HXF.out.t).2.2
            have hlo : 0 ≤ x.lo ∧ x.lo ≤ 1000 := by have := HXF.out.lo; omega
            have hhi : 0 ≤ x.hi ∧ x.hi ≤ 1000 := by have := HXF.out.hi; omega
            have hil0 : (Lib.itoa x.lo).length ≤ 1 := Sg.itoa_one (by have := HXF.out.lo; omega)
            have hih0 : (Lib.itoa x.hi).length ≤ 1 := Sg.itoa_one (by have := HXF.out.hi; omega)
            clear hV0 hvb f0 f1 f2 f3 m4 hEN
            go_quiet ((go_at_call 55; exact Calls.quiet_of_same (HIT.out _ (by assumption) _)))
            go_wp2_with fail
            go_roundg (s.values.length - (j + 1))
            case measure => omega
            case rel => exact ⟨j + 1, _, by omega, rfl, rfl, by go_num, by rw [HEX.out, HVP.out, HVW.out, HTY.out, List.append_assoc, ← Sg.lineP_next HXJ.out], below_drewN HBX.out _⟩
          · have hnI : ¬ (j : Int) < (s.values.length : Int) := by omega
            have HLJ : Hid (Sg.lineP s j = Sg.lineJ s) := Lib.hid (Sg.lineP_all (by omega))
            have HBK : Hid (Below w2.heap.size w2 wj) := Lib.hid (HBR0.out.trans (HBJ.out.mono HBR0.out.size))
            go_wp2_with fail
            go_roundg (l.signs.length - (k + 1))
            case measure => omega
            case rel => exact ⟨k + 1, _, by omega, rfl, rfl, by go_num, by rw [Sg.app_bytes _ [10], HTY.out, HLJ.out, Sg.fmtP_next HS.out, ← HLN.out, List.append_assoc], HBK.out⟩
    · have hnI : ¬ (k : Int) < (l.signs.length : Int) := by omega
      have HALL : Hid (ts.data.toList = res) := Lib.hid (by rw [HN.out, ← Sg.fmtP_all (l := l) (k := k) (by omega)]; exact HTS.out)
      go_wp2_with fail
      go_ret2
      exact ⟨ts, rfl, HALL.out, HWR.out⟩
end Go.Proofs.YtkmimjngmfdpmaaGreatDoor
namespace Go.Proofs.YtkmimjngmfdpmaaGreatDoor
open Go Go.RowKit
theorem r1Same_eq (v v' : Value) (l : Sg.SList) (w : World) (ha : RdSL w w.heap.size v l) (hb : RdSL w w.heap.size v' l) : Calls Tryz.prog 23 #[v, v'] w (RetBB true w) := by
  refine (r1Same_any v v' l l w ha hb).mono ?_
  rintro e w' ⟨q, rfl, hq, hb⟩
  have : q = true := hq.2 ⟨rfl, rfl⟩
  subst this
  exact ⟨rfl, hb⟩
set_option maxRecDepth 100000 in
set_option maxHeartbeats 8000000 in
theorem SignsFormats_any (v : Value) (l : Sg.SList)  (w : World) (hr : RdSL w w.heap.size v l) (hg : Glob w) (ht : GTab w) : Calls Tryz.prog 10 #[v] w (RetBB true w) := by
  have HRL := Lib.hid fun (W : World) (hW : Below w.heap.size w W) => hr.on hW
  have HGT := Lib.hid fun (W : World) (hW : Below w.heap.size w W) => (⟨hg.below hW, ht.below hW⟩ : Glob W ∧ GTab W)
  have HWK := Lib.hid fun (W : World) (hW : Below w.heap.size w W) => works1_any W (hg.below hW) (ht.below hW)
  obtain ⟨⟨u, rfl, hgl⟩, hf⟩ := hr
  obtain ⟨A0, c0, rfl⟩ := hgl.form
  obtain ⟨W1, hW1⟩ : ∃ W1, W1 = w.alloc (.cells #[.int .i64 l.periods, .slice A0 l.signs.length c0] 24) := ⟨_, rfl⟩
  have hb1 : Below w.heap.size w W1 := by rw [hW1]; exact (Below.refl _ _).alloc (Nat.le_refl _) _
  have hX : W1.heap[w.heap.size]? = some (.cells #[.int .i64 l.periods, .slice A0 l.signs.length c0] 24 (0, 0)) := by rw [hW1]; exact heap_alloc_new _ _
  have hs1 : w.heap.size < W1.heap.size := (Array.getElem?_eq_some_iff.1 hX).1
  have CX : Hid (∀ W, Below W1.heap.size W1 W → W.cell? ⟨w.heap.size, 0, none⟩ = some (.int .i64 l.periods) ∧ W.cell? ⟨w.heap.size, 1, none⟩ = some (.slice A0 l.signs.length c0)) := Lib.hid fun W hW => by
    have p := (hW.block _ hs1).trans hX
    exact ⟨by simp [World.cell?, p], by simp [World.cell?, p]⟩
  obtain ⟨x0, x1⟩ := CX.out W1 (Below.refl _ _)
  have HB1 := Lib.hid hb1
  have HW1 := Lib.hid hW1
  have HBG := Lib.hid (l1Big_any _ l W1 (HRL.out W1 hb1))
  clear hgl hf hW1 hb1 hX hg ht
  cases hbig : Sg.bigV l
  case true =>
    rw [hbig] at HBG
    clear hbig
    go_enter Tryz.func10, Tryz.ntmps10
    go_upto_region 1 with fail
    rw [← HW1.out]
    go_wp2_with fail
    refine HBG.out.mono ?_
    rintro e w2 ⟨rfl, hb2⟩
    have HB2 := Lib.hid (HB1.out.trans (hb2.mono (by omega)))
    clear hb2
    go_wp2_with fail
    refine (HWK.out _ HB2.out).mono ?_
    rintro e w3 ⟨rfl, hb3⟩
    have HB3 := Lib.hid (HB2.out.trans (hb3.mono HB2.out.size))
    clear hb3
    go_wp2_with fail
    go_ret
    exact ⟨rfl, HB3.out⟩
  rw [hbig] at HBG
  have HSM := Lib.hid (Sg.big_small hbig).1
  clear hbig
  obtain ⟨ft, hft⟩ : ∃ T, T = Sg.formatV l := ⟨_, rfl⟩
  obtain ⟨e1, he1⟩ : ∃ e, e = Sg.checkV l := ⟨_, rfl⟩
  have HPF : Hid (e1 = 0 → Sg.parseV ft = (l, 0, 0) ∧ ft.length ≤ 60000) := Lib.hid (by rw [he1, hft]; exact Sg.parse_format)
  have HF1 := Lib.hid fun (y : Value) (W : World) (hy : RdSL W W.heap.size y l) (hG : Glob W) => gFormat_any y l W hy hG
  have HF2 := Lib.hid fun (y : Value) (W : World) (hy : RdSL W W.heap.size y l) => r1Format_any y l W hy
  rw [← hft, ← he1] at HF1 HF2
  clear hft he1
  go_enter Tryz.func10, Tryz.ntmps10
  go_upto_region 1 with fail
  rw [← HW1.out]
  go_wp2_with fail
  refine HBG.out.mono ?_
  rintro e w2 ⟨rfl, hb2⟩
  have HB2 := Lib.hid (HB1.out.trans (hb2.mono (by omega)))
  have H2 := Lib.hid hb2
  clear hb2 x0 x1
  obtain ⟨x0, x1⟩ := CX.out w2 H2.out
  go_wp2_with fail
  refine (r1Copy_any _ l w2 (HRL.out w2 HB2.out) HSM.out).mono ?_
  rintro e wc ⟨vc, rfl, hrc, hbc⟩
  have HRc := Lib.hid hrc
  clear hrc
  have HBc := Lib.hid (HB2.out.trans (hbc.mono HB2.out.size))
  have Hc := Lib.hid (H2.out.trans (hbc.mono H2.out.size))
  clear hbc x0 x1
  obtain ⟨x0, x1⟩ := CX.out wc Hc.out
  go_wp2_with fail
  refine (HF1.out _ wc HRc.out (HGT.out wc HBc.out).1).mono ?_
  rintro e w4 ⟨s, rfl, hs, hb4⟩
  have HSV := Lib.hid hs
  clear hs
  have HB4 := Lib.hid (HBc.out.trans (hb4.mono HBc.out.size))
  have H4 := Lib.hid (Hc.out.trans (hb4.mono Hc.out.size))
  clear hb4 x0 x1
  obtain ⟨x0, x1⟩ := CX.out w4 H4.out
  go_wp2_with fail
  refine (HF2.out _ w4 (HRL.out w4 HB4.out)).mono ?_
  rintro e w5 ⟨s2, rfl, hs2, hb5⟩
  obtain rfl : s = s2 := by
    have e : s.data = s2.data := Array.toList_inj.1 (HSV.out.trans hs2.symm)
    cases s2; cases s; simp only at e; rw [e]
  clear hs2
  have HB5 := Lib.hid (HB4.out.trans (hb5.mono HB4.out.size))
  have H5 := Lib.hid (H4.out.trans (hb5.mono H4.out.size))
  clear hb5 x0 x1
  obtain ⟨x0, x1⟩ := CX.out w5 H5.out
  by_cases hz : e1 = 0
  case neg =>
    have hz' : (e1 == 0) = false := by simp [hz]
    go_wp2_with fail
    refine (HWK.out _ HB5.out).mono ?_
    rintro e wz ⟨rfl, hbz⟩
    have HBZ := Lib.hid (HB5.out.trans (hbz.mono HB5.out.size))
    clear hbz
    go_wp2_with fail
    go_ret
    exact ⟨rfl, HBZ.out⟩
  subst hz
  have hpf := HPF.out rfl
  have hss : s.size ≤ 1000000 := by
    have q1 : s.data.toList.length = s.size := rfl
    rw [HSV.out] at q1
    omega
  have HPS := Lib.hid (gParse_any s w5 (HGT.out w5 HB5.out).1 hss)
  rw [HSV.out, hpf.1] at HPS
  clear hpf hss
  go_wp2_with fail
  refine HPS.out.mono ?_
  rintro e u6 ⟨y6, rfl, hr6, hu6⟩
  have HBU := Lib.hid (HB5.out.trans (hu6.mono HB5.out.size))
  have HU := Lib.hid (H5.out.trans (hu6.mono H5.out.size))
  have HRY := Lib.hid hr6
  obtain ⟨⟨z6, rfl, hg6⟩, -⟩ := hr6
  obtain ⟨A6, c6, rfl⟩ := hg6.form
  obtain ⟨w6, hw6⟩ : ∃ W, W = u6.alloc (.cells #[.int .i64 l.periods, .slice A6 l.signs.length c6] 24) := ⟨_, rfl⟩
  obtain ⟨b6, hb6⟩ : ∃ b, b = u6.heap.size := ⟨_, rfl⟩
  have hbw6 : Below u6.heap.size u6 w6 := by rw [hw6]; exact (Below.refl _ _).alloc (Nat.le_refl _) _
  have hhw6 : w6.heap[b6]? = some (.cells #[.int .i64 l.periods, .slice A6 l.signs.length c6] 24 (0, 0)) := by rw [hw6, hb6]; exact heap_alloc_new _ _
  have m0 : w6.cell? ⟨b6, 0, none⟩ = some (.int .i64 l.periods) := by simp [World.cell?, hhw6]
  have m1 : w6.cell? ⟨b6, 1, none⟩ = some (.slice A6 l.signs.length c6) := by simp [World.cell?, hhw6]
  have HRW := Lib.hid (HRY.out.on hbw6)
  have HB6 := Lib.hid (HBU.out.trans (hbw6.mono HBU.out.size))
  have H6 := Lib.hid (HU.out.trans (hbw6.mono HU.out.size))
  have HWW := Lib.hid hw6
  have HBB := Lib.hid hb6
  clear hu6 hg6 hw6 hb6 hbw6 hhw6 x0 x1
  go_upto_region 10 with fail
  rw [← HWW.out, ← HBB.out]
  obtain ⟨x0, x1⟩ := CX.out w6 H6.out
  have HS1 := Lib.hid (r1Same_eq _ _ l w6 (HRL.out w6 HB6.out) HRW.out)
  go_wp2_with fail
  refine HS1.out.mono ?_
  rintro e w8 ⟨rfl, hb8⟩
  have HB8 := Lib.hid (HB6.out.trans (hb8.mono HB6.out.size))
  clear hb8 m0 m1 x0 x1
  go_wp2_with fail
  refine (HWK.out _ HB8.out).mono ?_
  rintro e wz ⟨rfl, hbz⟩
  have HBZ := Lib.hid (HB8.out.trans (hbz.mono HB8.out.size))
  clear hbz
  go_wp2_with fail
  go_ret
  exact ⟨rfl, HBZ.out⟩
end Go.Proofs.YtkmimjngmfdpmaaGreatDoor
