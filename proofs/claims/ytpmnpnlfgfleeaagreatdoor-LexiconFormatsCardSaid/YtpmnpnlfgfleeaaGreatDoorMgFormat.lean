/- lexicon.Format. -/
import Derived.Test.YtpmnpnlfgfleeaaGreatDoorMgNumber
import Derived.Test.YtpmnpnlfgfleeaaGreatDoorMgRParseT
import Derived.Lib.AppendIntMem
import Derived.Test.YtpmnpnlfgfleeaaGreatDoorMgRLine
import Derived.Test.YtpmnpnlfgfleeaaGreatDoorMgCheck
namespace Go.Proofs.YtpmnpnlfgfleeaaGreatDoor
open Go Go.RowKit

theorem three_cells {w : World} {b : Nat} {v0 v1 v2 : Value} {t : TypeId} (h : w.heap[b]? = some (.cells #[v0, v1, v2] t (0, 0))) :
    w.cell? ⟨b, 0, none⟩ = some v0 ∧ w.cell? ⟨b, 1, none⟩ = some v1 ∧ w.cell? ⟨b, 2, none⟩ = some v2 :=
  ⟨by simp [World.cell?, h], by simp [World.cell?, h], by simp [World.cell?, h]⟩
def pow10 : String := "internal/strconv.uint64pow10"
theorem pow10_named : ∃ g, Tryz.prog.globalNamed pow10 = some g := Option.isSome_iff_exists.1 (by kernel_rfl : (Tryz.prog.globalNamed pow10).isSome = true)
theorem tab_below {w W : World} (h : Lib.TabIs Tryz.prog w pow10 .u64 Lib.pow10Tab) (hb : Below w.heap.size w W) : Lib.TabIs Tryz.prog W pow10 .u64 Lib.pow10Tab := by
  obtain ⟨g, hg⟩ := pow10_named
  unfold Lib.TabIs World.var? at h ⊢
  rw [hg] at h ⊢
  simp only [Option.bind_some] at h ⊢
  have hlt : g < w.heap.size := by
    rcases Nat.lt_or_ge g w.heap.size with h' | h'
    · exact h'
    · simp [Array.getElem?_eq_none h'] at h
  rw [hb.block g hlt]
  exact h
theorem Itoa_all {w : World} (h : Lib.TabIs Tryz.prog w pow10 .u64 Lib.pow10Tab) (n : Int) (hn : 0 ≤ n ∧ n ≤ 1000) (W : World) (hb : Below w.heap.size w W) :
    Calls Tryz.prog 32 #[.int .i64 n] W (fun e w' => e = .returned (.string ⟨(Lib.itoa n).toArray⟩) ∧ Below W.heap.size W w') := by
  refine (Tryz.strconv_Itoa n (by omega) (by omega) W (tab_below h hb)).mono ?_
  rintro e w' ⟨rfl, k, os, rfl⟩
  exact ⟨rfl, Lib.below_grow _ _ (Nat.le_refl _) _ _⟩
structure FwR (T0 : Array Value) (W0 : World) (bb eb : Nat) (l : List UInt8) (ro : ByteArray) (kd : Int) (cl : ByteArray) (wt : Int) (d : Array Bool) (t : Array Value) (wc : World) : Prop where
  bel : Below bb W0 wc
  siz : t.size = 84
  kp : ∀ i, i ∉ ([31, 32, 33, 34, 35, 36, 37, 38, 39, 40, 41, 42] : List Nat) → t[i]? = T0[i]?
  k6 : t[6]? = some (.func (.func 50) #[] #[.pointer (some ⟨bb, 0, none⟩)])
  k8 : t[8]? = some (.pointer (some ⟨eb, 0, none⟩))
  k9 : t[9]? = some (.string cl)
  p0 : dn d 0 → t[31]? = some (.func (.func 50) #[] #[.pointer (some ⟨bb, 0, none⟩)])
  p1 : dn d 1 → t[32]? = some (.pointer (some ⟨eb, 0, none⟩))
  p2 : dn d 2 → t[33]? = some (.string ro)
  p3 : dn d 3 → t[34]? = some (.pointer (some ⟨eb, 1, none⟩))
  p4 : dn d 4 → t[35]? = some (.int .i64 kd)
  p5 : dn d 5 → t[36]? = some (.string (⟨(Lib.itoa kd).toArray⟩ : ByteArray))
  p6 : dn d 6 → t[37]? = some (.string cl)
  p7 : dn d 7 → t[38]? = some (.pointer (some ⟨eb, 3, none⟩))
  p8 : dn d 8 → t[39]? = some (.int .i64 wt)
  p9 : dn d 9 → t[40]? = some (.string (⟨(Lib.itoa wt).toArray⟩ : ByteArray))
  oth : ¬ dn d 11 → Below W0.heap.size W0 wc
  sl : dn d 10 → ¬ dn d 11 → ∃ g, t[41]? = some (.slice (some ⟨g, 0, none⟩) 5 5) ∧ RdS wc wc.heap.size 1 encStr (.slice (some ⟨g, 0, none⟩) 5 5) [(⟨#[119, 111, 114, 100]⟩ : ByteArray), ro, (⟨(Lib.itoa kd).toArray⟩ : ByteArray), cl, (⟨(Lib.itoa wt).toArray⟩ : ByteArray)]
  res : dn d 11 → Lib.IsBuilder 95 5 bb bb (Lib.byteCells (l ++ Lx.lineL ([(⟨#[119, 111, 114, 100]⟩ : ByteArray), ro, (⟨(Lib.itoa kd).toArray⟩ : ByteArray), cl, (⟨(Lib.itoa wt).toArray⟩ : ByteArray)].map (·.data.toList)))) wc
  l2_1 : dn d 2 → dn d 1
  l4_3 : dn d 4 → dn d 3
  l5_4 : dn d 5 → dn d 4
  l8_7 : dn d 8 → dn d 7
  l9_8 : dn d 9 → dn d 8
  l10_2 : dn d 10 → dn d 2
  l10_5 : dn d 10 → dn d 5
  l10_6 : dn d 10 → dn d 6
  l10_9 : dn d 10 → dn d 9
  l11_0 : dn d 11 → dn d 0
  l11_1 : dn d 11 → dn d 1
  l11_2 : dn d 11 → dn d 2
  l11_3 : dn d 11 → dn d 3
  l11_4 : dn d 11 → dn d 4
  l11_5 : dn d 11 → dn d 5
  l11_6 : dn d 11 → dn d 6
  l11_7 : dn d 11 → dn d 7
  l11_8 : dn d 11 → dn d 8
  l11_9 : dn d 11 → dn d 9
  l11_10 : dn d 11 → dn d 10
def FwI (T0 : Array Value) (W0 : World) (bb eb : Nat) (l : List UInt8) (ro : ByteArray) (kd : Int) (cl : ByteArray) (wt : Int) (d : Array Bool) (a : Act) (wc : World) : Prop := ∃ t : Array Value, a = ⟨t, []⟩ ∧ FwR T0 W0 bb eb l ro kd cl wt d t wc
structure FeR (T0 : Array Value) (W0 : World) (bb eb : Nat) (l : List UInt8) (kd : Int) (tx nm : ByteArray) (wt : Int) (d : Array Bool) (t : Array Value) (wc : World) : Prop where
  bel : Below bb W0 wc
  siz : t.size = 84
  kp : ∀ i, i ∉ ([51, 52, 53, 54, 55, 56, 57, 58, 59, 60, 61, 62, 63] : List Nat) → t[i]? = T0[i]?
  k6 : t[6]? = some (.func (.func 50) #[] #[.pointer (some ⟨bb, 0, none⟩)])
  k11 : t[11]? = some (.pointer (some ⟨eb, 0, none⟩))
  p0 : dn d 0 → t[51]? = some (.func (.func 50) #[] #[.pointer (some ⟨bb, 0, none⟩)])
  p1 : dn d 1 → t[52]? = some (.pointer (some ⟨eb, 0, none⟩))
  p2 : dn d 2 → t[53]? = some (.int .i64 kd)
  p3 : dn d 3 → t[54]? = some (.string (⟨(Lib.itoa kd).toArray⟩ : ByteArray))
  p4 : dn d 4 → t[55]? = some (.pointer (some ⟨eb, 1, none⟩))
  p5 : dn d 5 → t[56]? = some (.string tx)
  p6 : dn d 6 → t[57]? = some (.pointer (some ⟨eb, 2, none⟩))
  p7 : dn d 7 → t[58]? = some (.string nm)
  p8 : dn d 8 → t[59]? = some (.pointer (some ⟨eb, 3, none⟩))
  p9 : dn d 9 → t[60]? = some (.int .i64 wt)
  p10 : dn d 10 → t[61]? = some (.string (⟨(Lib.itoa wt).toArray⟩ : ByteArray))
  oth : ¬ dn d 12 → Below W0.heap.size W0 wc
  sl : dn d 11 → ¬ dn d 12 → ∃ g, t[62]? = some (.slice (some ⟨g, 0, none⟩) 5 5) ∧ RdS wc wc.heap.size 1 encStr (.slice (some ⟨g, 0, none⟩) 5 5) [(⟨#[101, 110, 100, 105, 110, 103]⟩ : ByteArray), (⟨(Lib.itoa kd).toArray⟩ : ByteArray), tx, nm, (⟨(Lib.itoa wt).toArray⟩ : ByteArray)]
  res : dn d 12 → Lib.IsBuilder 95 5 bb bb (Lib.byteCells (l ++ Lx.lineL ([(⟨#[101, 110, 100, 105, 110, 103]⟩ : ByteArray), (⟨(Lib.itoa kd).toArray⟩ : ByteArray), tx, nm, (⟨(Lib.itoa wt).toArray⟩ : ByteArray)].map (·.data.toList)))) wc
  l2_1 : dn d 2 → dn d 1
  l3_2 : dn d 3 → dn d 2
  l5_4 : dn d 5 → dn d 4
  l7_6 : dn d 7 → dn d 6
  l9_8 : dn d 9 → dn d 8
  l10_9 : dn d 10 → dn d 9
  l11_3 : dn d 11 → dn d 3
  l11_5 : dn d 11 → dn d 5
  l11_7 : dn d 11 → dn d 7
  l11_10 : dn d 11 → dn d 10
  l12_0 : dn d 12 → dn d 0
  l12_1 : dn d 12 → dn d 1
  l12_2 : dn d 12 → dn d 2
  l12_3 : dn d 12 → dn d 3
  l12_4 : dn d 12 → dn d 4
  l12_5 : dn d 12 → dn d 5
  l12_6 : dn d 12 → dn d 6
  l12_7 : dn d 12 → dn d 7
  l12_8 : dn d 12 → dn d 8
  l12_9 : dn d 12 → dn d 9
  l12_10 : dn d 12 → dn d 10
  l12_11 : dn d 12 → dn d 11
def FeI (T0 : Array Value) (W0 : World) (bb eb : Nat) (l : List UInt8) (kd : Int) (tx nm : ByteArray) (wt : Int) (d : Array Bool) (a : Act) (wc : World) : Prop := ∃ t : Array Value, a = ⟨t, []⟩ ∧ FeR T0 W0 bb eb l kd tx nm wt d t wc
structure FcR (T0 : Array Value) (W0 : World) (bb eb : Nat) (l : List UInt8) (tx nm : ByteArray) (wt : Int) (d : Array Bool) (t : Array Value) (wc : World) : Prop where
  bel : Below bb W0 wc
  siz : t.size = 84
  kp : ∀ i, i ∉ ([72, 73, 74, 75, 76, 77, 78, 79, 80, 81] : List Nat) → t[i]? = T0[i]?
  k6 : t[6]? = some (.func (.func 50) #[] #[.pointer (some ⟨bb, 0, none⟩)])
  k13 : t[13]? = some (.pointer (some ⟨eb, 0, none⟩))
  p0 : dn d 0 → t[72]? = some (.func (.func 50) #[] #[.pointer (some ⟨bb, 0, none⟩)])
  p1 : dn d 1 → t[73]? = some (.pointer (some ⟨eb, 0, none⟩))
  p2 : dn d 2 → t[74]? = some (.string tx)
  p3 : dn d 3 → t[75]? = some (.pointer (some ⟨eb, 1, none⟩))
  p4 : dn d 4 → t[76]? = some (.string nm)
  p5 : dn d 5 → t[77]? = some (.pointer (some ⟨eb, 2, none⟩))
  p6 : dn d 6 → t[78]? = some (.int .i64 wt)
  p7 : dn d 7 → t[79]? = some (.string (⟨(Lib.itoa wt).toArray⟩ : ByteArray))
  oth : ¬ dn d 9 → Below W0.heap.size W0 wc
  sl : dn d 8 → ¬ dn d 9 → ∃ g, t[80]? = some (.slice (some ⟨g, 0, none⟩) 4 4) ∧ RdS wc wc.heap.size 1 encStr (.slice (some ⟨g, 0, none⟩) 4 4) [(⟨#[99, 108, 105, 116, 105, 99]⟩ : ByteArray), tx, nm, (⟨(Lib.itoa wt).toArray⟩ : ByteArray)]
  res : dn d 9 → Lib.IsBuilder 95 5 bb bb (Lib.byteCells (l ++ Lx.lineL ([(⟨#[99, 108, 105, 116, 105, 99]⟩ : ByteArray), tx, nm, (⟨(Lib.itoa wt).toArray⟩ : ByteArray)].map (·.data.toList)))) wc
  l2_1 : dn d 2 → dn d 1
  l4_3 : dn d 4 → dn d 3
  l6_5 : dn d 6 → dn d 5
  l7_6 : dn d 7 → dn d 6
  l8_2 : dn d 8 → dn d 2
  l8_4 : dn d 8 → dn d 4
  l8_7 : dn d 8 → dn d 7
  l9_0 : dn d 9 → dn d 0
  l9_1 : dn d 9 → dn d 1
  l9_2 : dn d 9 → dn d 2
  l9_3 : dn d 9 → dn d 3
  l9_4 : dn d 9 → dn d 4
  l9_5 : dn d 9 → dn d 5
  l9_6 : dn d 9 → dn d 6
  l9_7 : dn d 9 → dn d 7
  l9_8 : dn d 9 → dn d 8
def FcI (T0 : Array Value) (W0 : World) (bb eb : Nat) (l : List UInt8) (tx nm : ByteArray) (wt : Int) (d : Array Bool) (a : Act) (wc : World) : Prop := ∃ t : Array Value, a = ⟨t, []⟩ ∧ FcR T0 W0 bb eb l tx nm wt d t wc

/-- what a Format leaves -/
def RetFmt (l : List UInt8) (n : Int) (w : World) (e : Ending) (w' : World) : Prop := ∃ s : ByteArray, e = .returned (.tuple #[.string s, .int .i64 n]) ∧ s.data.toList = l ∧ Below w.heap.size w w'
theorem Lx.dashB_in {c : ByteArray} (h : c.toList.isEmpty = true) : _root_.Lx.dashB c = ⟨#[45]⟩ := by
  unfold _root_.Lx.dashB
  rw [if_pos (by rw [← Go.Lib.toList_data]; exact List.isEmpty_iff.1 h)]
theorem Lx.dashB_out {c : ByteArray} (h : c.toList.isEmpty = false) : _root_.Lx.dashB c = c := by
  unfold _root_.Lx.dashB
  rw [if_neg]
  intro e
  rw [Go.Lib.toList_data, e] at h
  cases h
set_option maxRecDepth 100000 in
set_option maxHeartbeats 4000000 in
theorem Format_any (v : Value) (x : Lx.Lexicon) (w : World) (hr : RdL w w.heap.size v x) (ht : Lib.TabIs Tryz.prog w pow10 .u64 Lib.pow10Tab) : Calls Tryz.prog 23 #[v] w (RetFmt (Lx.formatV x) (Lx.checkV x) w) := by
  have HR := Lib.hid hr
  have HIT := Lib.hid (fun (n : Int) (hn : 0 ≤ n ∧ n ≤ 1000) (W : World) (hW : Below w.heap.size w W) => Itoa_all ht n hn W hW)
  obtain ⟨⟨v0, v1, v2, rfl, hr0, hr1, hr2⟩, -, -, -⟩ := hr
  have HR0 := Lib.hid hr0
  have HR1 := Lib.hid hr1
  have HR2 := Lib.hid hr2
  obtain ⟨A0, c0, rfl, -⟩ := hr0
  obtain ⟨A1, c1, rfl, -⟩ := hr1
  obtain ⟨A2, c2, rfl, -⟩ := hr2
  have hal : Below w.heap.size w (w.alloc (.cells #[.slice A0 x.entries.length c0, .slice A1 x.endings.length c1, .slice A2 x.clitics.length c2] 26)) := (Below.refl _ _).alloc (Nat.le_refl _) _
  have HCK := Lib.hid (Check_any _ x _ ((HR.out.below hal).more hal.size))
  have HAL := Lib.hid hal
  clear hal ht
  go_enter Tryz.func23, Tryz.ntmps23
  go_wp2_with fail
  refine HCK.out.mono ?_
  rintro e1 w1 ⟨rfl, hb1⟩
  have hs1 : w.heap.size < w1.heap.size := by have := hb1.size; simp at this; omega
  have HX1 := Lib.hid ((hb1.block w.heap.size (by simp)).trans (heap_alloc_new w (.cells #[.slice A0 x.entries.length c0, .slice A1 x.endings.length c1, .slice A2 x.clitics.length c2] 26)))
  have HB1 := Lib.hid (HAL.out.trans (hb1.mono (by simp)))
  clear hb1
  obtain ⟨cv, hcv⟩ : ∃ n, n = Lx.checkV x := ⟨_, rfl⟩
  rw [← hcv]
  have HCV := Lib.hid hcv
  clear hcv
  by_cases hz : cv = 0
  · have HF := Lib.hid (Lx.fine_of (HCV.out.symm.trans hz))
    have HV : Hid (Lx.formatV x = Lx.fmtL x) := Lib.hid (by unfold Lx.formatV; rw [if_pos (HCV.out.symm.trans hz)])
    go_upto_region 6 with fail
    obtain ⟨w2, hw2⟩ : ∃ w2, w2 = w1.alloc (.cells #[.pointer none, .slice none 0 0] 95) := ⟨_, rfl⟩
    have HB12 : Hid (Below w1.heap.size w1 w2) := Lib.hid (by rw [hw2]; exact (Below.refl _ _).alloc (Nat.le_refl _) _)
    have hbb0 : w1.heap.size < w2.heap.size := by rw [hw2]; simp
    have hBu : w2.heap[w1.heap.size]? = some (.cells #[.pointer none, .slice none 0 0] 95 (0, 0)) := by rw [hw2]; exact heap_alloc_new _ _
    rw [← hw2]
    obtain ⟨bb, hbb⟩ : ∃ bb, bb = w1.heap.size := ⟨_, rfl⟩
    rw [← hbb] at hBu hbb0 ⊢
    have HIB0 : Hid (Lib.IsBuilder 95 5 bb bb (Lib.byteCells []) w2) := Lib.hid (.inl ⟨Nat.le_refl _, _, hBu, World.ownsRow_nil _ _ _ _, by simp [Value.ownBlock]⟩)
    have hwb : w.heap.size < bb := by omega
    have HX2 := Lib.hid ((HB12.out.block w.heap.size hs1).trans HX1.out)
    have HB2 := Lib.hid (HB1.out.trans (HB12.out.mono (Nat.le_of_lt hs1)))
    obtain ⟨p0, p1, p2⟩ := lex_cells HX2.out
    clear hw2 hbb hBu hs1
    go_wp2_with fail
    have hn0 : x.entries.length ≤ 200 := HF.out.n0
    have hn1 : x.endings.length ≤ 40 := HF.out.n1
    have hn2 : x.clitics.length ≤ 10 := HF.out.n2
    go_loopg [23] x.entries.length (fun g i wr => ∃ k : Nat, k ≤ x.entries.length ∧ g = x.entries.length - k ∧ i = .int .i64 k ∧ Lib.IsBuilder 95 5 bb bb (Lib.byteCells ((x.entries.take k).flatMap fun e => Lx.lineL (Lx.wordL e))) wr ∧ Below bb w2 wr)
    case atStart => exact ⟨0, Nat.zero_le _, rfl, rfl, HIB0.out, Below.refl _ _⟩
    case round =>
      obtain ⟨k, hk, rfl, rfl, hib, hbr⟩ := hrel
      have HIBR := Lib.hid hib
      have HBR := Lib.hid hbr
      have hsr : w2.heap.size ≤ wr.heap.size := hbr.size
      have HWR : Hid (Below w.heap.size w wr) := Lib.hid (HB2.out.trans (hbr.mono (Nat.le_of_lt hwb)))
      clear hib hbr
      by_cases hlt : k < x.entries.length
      · obtain ⟨b, off, rfl, hb, hcell⟩ := HR0.out.ex0 (by omega)
        obtain ⟨e, he⟩ : ∃ e, e = x.entries[k] := ⟨_, rfl⟩
        have hk1 : x.entries[k]? = some e := by rw [he]; exact List.getElem?_eq_getElem hlt
        have HK := Lib.hid hk1
        have HE := Lib.hid (Lx.Entry.fine (HF.out.e0 e (List.mem_of_getElem? hk1)))
        have fg0 := (HWR.out.cell (p := ⟨b, off + k * 4, none⟩) hb).trans (by simpa using hcell k e hk1 0 _ rfl : w.cell? ⟨b, off + k * 4, none⟩ = some (.string e.root))
        have fg1 := (HWR.out.cell (p := ⟨b, off + k * 4 + 1, none⟩) hb).trans (hcell k e hk1 1 _ rfl)
        have fg2 := (HWR.out.cell (p := ⟨b, off + k * 4 + 2, none⟩) hb).trans (hcell k e hk1 2 _ rfl)
        have fg3 := (HWR.out.cell (p := ⟨b, off + k * 4 + 3, none⟩) hb).trans (hcell k e hk1 3 _ rfl)
        clear he hk1 hcell
        go_upto_region 10 with fail
        obtain ⟨W0, hW0⟩ : ∃ W, W = wr.alloc (.cells #[.string e.root, .int .i64 e.kind, .string e.cls, .int .i64 e.weight] 57) := ⟨_, rfl⟩
        obtain ⟨eb, heb⟩ : ∃ e, e = wr.heap.size := ⟨_, rfl⟩
        have HBW : Hid (Below wr.heap.size wr W0) := Lib.hid (by rw [hW0]; exact (Below.refl _ _).alloc (Nat.le_refl _) _)
        have HEN : Hid (W0.heap[eb]? = some (.cells #[.string e.root, .int .i64 e.kind, .string e.cls, .int .i64 e.weight] 57 (0, 0))) := Lib.hid (by rw [hW0, heb]; exact heap_alloc_new _ _)
        have hE : eb < W0.heap.size := by rw [hW0, heb]; simp
        have hbW0 : bb < W0.heap.size := by have := HBW.out.size; omega
        have HIB := Lib.hid (isBuilder_below HIBR.out HBW.out)
        have HW0 := Lib.hid (HWR.out.trans (HBW.out.mono HWR.out.size))
        have HBR0 : Hid (Below bb w2 W0) := Lib.hid (HBR.out.trans (HBW.out.mono (by omega)))
        rw [← hW0, ← heb]
        obtain ⟨l, hl⟩ : ∃ l, l = ((x.entries.take k).flatMap fun e => Lx.lineL (Lx.wordL e)) := ⟨_, rfl⟩
        rw [← hl] at HIB
        have HLN := Lib.hid hl
        have HLL : Hid (l.length ≤ 1000000) := Lib.hid (by rw [hl]; have h1 := Lx.flat_take_len (f := fun e => Lx.lineL (Lx.wordL e)) (l := x.entries) k (fun a ha => Lx.word_len (Lx.Entry.fine (HF.out.e0 a ha))); omega)
        have hkd : 0 ≤ e.kind ∧ e.kind ≤ 1000 := ⟨by have := HE.out.k; omega, by have := HE.out.k; omega⟩
        have hwt : 0 ≤ e.weight ∧ e.weight ≤ 1000 := HE.out.w
        clear hl hW0 heb fg0 fg1 fg2 fg3
        cases hc : e.cls.toList.isEmpty
        · have hd := Lx.dashB_out hc
          have HWS : Hid (Lx.lineL (Lx.wordL e) = Lx.lineL ([(⟨#[119, 111, 114, 100]⟩ : ByteArray), e.root, (⟨(Lib.itoa e.kind).toArray⟩ : ByteArray), e.cls, (⟨(Lib.itoa e.weight).toArray⟩ : ByteArray)].map (·.data.toList))) := Lib.hid (by unfold _root_.Lx.wordL; rw [hd]; rfl)
          have HLZ : Hid ((Lx.lineL ([(⟨#[119, 111, 114, 100]⟩ : ByteArray), e.root, (⟨(Lib.itoa e.kind).toArray⟩ : ByteArray), e.cls, (⟨(Lib.itoa e.weight).toArray⟩ : ByteArray)].map (·.data.toList))).length ≤ 100000) := Lib.hid (by rw [← HWS.out]; have := Lx.word_len HE.out; omega)
          clear hd
          go_upto_region 12 with fail
          refine wp_region_inv2T (fun T0 => FwI T0 W0 bb eb l e.root e.kind e.cls e.weight) (by kernel_rfl) (by kernel_rfl) ?g0w ?gstepw ?gendw
          case g0w =>
            have hno : ∀ j, ¬ dn (Array.replicate 12 false) j := by
              intro j; unfold dn; by_cases hj : j < 12 <;> simp [Array.getD, hj]
            have na : ∀ {j : Nat} {Z : Prop}, dn (Array.replicate 12 false) j → Z := fun hj => absurd hj (hno _)
            exact ⟨_, rfl, { bel := (Below.refl _ _).drew, siz := rfl, kp := fun _ _ => rfl, k6 := rfl, k8 := rfl, k9 := rfl, p0 := na, p1 := na, p2 := na, p3 := na, p4 := na, p5 := na, p6 := na, p7 := na, p8 := na, p9 := na, oth := fun _ => (Below.refl _ _).drew, sl := fun hj => absurd hj (hno _), res := fun hj => absurd hj (hno _), l2_1 := fun hj => absurd hj (hno _), l4_3 := fun hj => absurd hj (hno _), l5_4 := fun hj => absurd hj (hno _), l8_7 := fun hj => absurd hj (hno _), l9_8 := fun hj => absurd hj (hno _), l10_2 := fun hj => absurd hj (hno _), l10_5 := fun hj => absurd hj (hno _), l10_6 := fun hj => absurd hj (hno _), l10_9 := fun hj => absurd hj (hno _), l11_0 := fun hj => absurd hj (hno _), l11_1 := fun hj => absurd hj (hno _), l11_2 := fun hj => absurd hj (hno _), l11_3 := fun hj => absurd hj (hno _), l11_4 := fun hj => absurd hj (hno _), l11_5 := fun hj => absurd hj (hno _), l11_6 := fun hj => absurd hj (hno _), l11_7 := fun hj => absurd hj (hno _), l11_8 := fun hj => absurd hj (hno _), l11_9 := fun hj => absurd hj (hno _), l11_10 := fun hj => absurd hj (hno _) }⟩
          case gstepw =>
            intro T0 d a wc i hd hI hi
            obtain ⟨hlt, hnd, hpre⟩ := mem_ready hi
            have hd' : d.size = 12 := hd
            have hin : i < 12 := hlt
            clear hi hd hlt
            obtain ⟨t, rfl, h⟩ := hI
            have hcs : i = 0 ∨ i = 1 ∨ i = 2 ∨ i = 3 ∨ i = 4 ∨ i = 5 ∨ i = 6 ∨ i = 7 ∨ i = 8 ∨ i = 9 ∨ i = 10 ∨ i = 11 := by omega
            rcases hcs with rfl | rfl | rfl | rfl | rfl | rfl | rfl | rfl | rfl | rfl | rfl | rfl
            · have hi : 0 < d.size := by omega
              have q6 := h.k6
              have hnd' := not_dn hi hnd
              refine wpOp_plain rfl rfl ?_
              go_simp
              exact ⟨_, rfl, { bel := h.bel, siz := (by simpa using h.siz), kp := rk h.kp, k6 := rs h.k6, k8 := rs h.k8, k9 := rs h.k9, oth := fun hk => h.oth (fun q => hk (dn_up q)), sl := fun hj hk => by obtain ⟨g, e1, e2⟩ := h.sl (dn_of hi hj (by decide)) (fun q => hk (dn_up q)); exact ⟨g, (set_other (by decide)).trans e1, e2⟩, res := fun hj => absurd (h.l11_0 (dn_of hi hj (by decide))) hnd', l2_1 := fun hj => dn_up (h.l2_1 (dn_of hi hj (by decide))), l4_3 := fun hj => dn_up (h.l4_3 (dn_of hi hj (by decide))), l5_4 := fun hj => dn_up (h.l5_4 (dn_of hi hj (by decide))), l8_7 := fun hj => dn_up (h.l8_7 (dn_of hi hj (by decide))), l9_8 := fun hj => dn_up (h.l9_8 (dn_of hi hj (by decide))), l10_2 := fun hj => dn_up (h.l10_2 (dn_of hi hj (by decide))), l10_5 := fun hj => dn_up (h.l10_5 (dn_of hi hj (by decide))), l10_6 := fun hj => dn_up (h.l10_6 (dn_of hi hj (by decide))), l10_9 := fun hj => dn_up (h.l10_9 (dn_of hi hj (by decide))), l11_0 := fun hj => dn_up (h.l11_0 (dn_of hi hj (by decide))), l11_1 := fun hj => dn_up (h.l11_1 (dn_of hi hj (by decide))), l11_2 := fun hj => dn_up (h.l11_2 (dn_of hi hj (by decide))), l11_3 := fun hj => dn_up (h.l11_3 (dn_of hi hj (by decide))), l11_4 := fun hj => dn_up (h.l11_4 (dn_of hi hj (by decide))), l11_5 := fun hj => dn_up (h.l11_5 (dn_of hi hj (by decide))), l11_6 := fun hj => dn_up (h.l11_6 (dn_of hi hj (by decide))), l11_7 := fun hj => dn_up (h.l11_7 (dn_of hi hj (by decide))), l11_8 := fun hj => dn_up (h.l11_8 (dn_of hi hj (by decide))), l11_9 := fun hj => dn_up (h.l11_9 (dn_of hi hj (by decide))), l11_10 := fun hj => dn_up (h.l11_10 (dn_of hi hj (by decide))), p0 := fun _ => set_same (by have := h.siz; omega), p1 := rp hi h.p1, p2 := rp hi h.p2, p3 := rp hi h.p3, p4 := rp hi h.p4, p5 := rp hi h.p5, p6 := rp hi h.p6, p7 := rp hi h.p7, p8 := rp hi h.p8, p9 := rp hi h.p9 }⟩
            · have hi : 1 < d.size := by omega
              have q8 := h.k8
              have hnd' := not_dn hi hnd
              refine wpOp_plain rfl rfl ?_
              go_simp
              exact ⟨_, rfl, { bel := h.bel, siz := (by simpa using h.siz), kp := rk h.kp, k6 := rs h.k6, k8 := rs h.k8, k9 := rs h.k9, oth := fun hk => h.oth (fun q => hk (dn_up q)), sl := fun hj hk => by obtain ⟨g, e1, e2⟩ := h.sl (dn_of hi hj (by decide)) (fun q => hk (dn_up q)); exact ⟨g, (set_other (by decide)).trans e1, e2⟩, res := fun hj => absurd (h.l11_1 (dn_of hi hj (by decide))) hnd', l2_1 := fun hj => dn_up (h.l2_1 (dn_of hi hj (by decide))), l4_3 := fun hj => dn_up (h.l4_3 (dn_of hi hj (by decide))), l5_4 := fun hj => dn_up (h.l5_4 (dn_of hi hj (by decide))), l8_7 := fun hj => dn_up (h.l8_7 (dn_of hi hj (by decide))), l9_8 := fun hj => dn_up (h.l9_8 (dn_of hi hj (by decide))), l10_2 := fun hj => dn_up (h.l10_2 (dn_of hi hj (by decide))), l10_5 := fun hj => dn_up (h.l10_5 (dn_of hi hj (by decide))), l10_6 := fun hj => dn_up (h.l10_6 (dn_of hi hj (by decide))), l10_9 := fun hj => dn_up (h.l10_9 (dn_of hi hj (by decide))), l11_0 := fun hj => dn_up (h.l11_0 (dn_of hi hj (by decide))), l11_1 := fun hj => dn_up (h.l11_1 (dn_of hi hj (by decide))), l11_2 := fun hj => dn_up (h.l11_2 (dn_of hi hj (by decide))), l11_3 := fun hj => dn_up (h.l11_3 (dn_of hi hj (by decide))), l11_4 := fun hj => dn_up (h.l11_4 (dn_of hi hj (by decide))), l11_5 := fun hj => dn_up (h.l11_5 (dn_of hi hj (by decide))), l11_6 := fun hj => dn_up (h.l11_6 (dn_of hi hj (by decide))), l11_7 := fun hj => dn_up (h.l11_7 (dn_of hi hj (by decide))), l11_8 := fun hj => dn_up (h.l11_8 (dn_of hi hj (by decide))), l11_9 := fun hj => dn_up (h.l11_9 (dn_of hi hj (by decide))), l11_10 := fun hj => dn_up (h.l11_10 (dn_of hi hj (by decide))), p0 := rp hi h.p0, p1 := fun _ => set_same (by have := h.siz; omega), p2 := rp hi h.p2, p3 := rp hi h.p3, p4 := rp hi h.p4, p5 := rp hi h.p5, p6 := rp hi h.p6, p7 := rp hi h.p7, p8 := rp hi h.p8, p9 := rp hi h.p9 }⟩
            · have hi : 2 < d.size := by omega
              have e1 := h.p1 (hpre _ rfl ⟨1, .data⟩ (by simp) rfl)
              have hnd' := not_dn hi hnd
              have h7 : ¬ dn d 11 := fun q => hnd' (h.l11_2 q)
              obtain ⟨m0, m1, m2, m3⟩ := four_cells (((h.oth h7).block eb hE).trans HEN.out)
              refine wpOp_plain rfl rfl ?_
              go_simp
              exact ⟨_, rfl, { bel := h.bel, siz := (by simpa using h.siz), kp := rk h.kp, k6 := rs h.k6, k8 := rs h.k8, k9 := rs h.k9, oth := fun hk => h.oth (fun q => hk (dn_up q)), sl := fun hj hk => by obtain ⟨g, e1, e2⟩ := h.sl (dn_of hi hj (by decide)) (fun q => hk (dn_up q)); exact ⟨g, (set_other (by decide)).trans e1, e2⟩, res := fun hj => absurd (h.l11_2 (dn_of hi hj (by decide))) hnd', l2_1 := fun _ => dn_up (hpre _ rfl ⟨1, .data⟩ (by simp) rfl), l4_3 := fun hj => dn_up (h.l4_3 (dn_of hi hj (by decide))), l5_4 := fun hj => dn_up (h.l5_4 (dn_of hi hj (by decide))), l8_7 := fun hj => dn_up (h.l8_7 (dn_of hi hj (by decide))), l9_8 := fun hj => dn_up (h.l9_8 (dn_of hi hj (by decide))), l10_2 := fun hj => dn_up (h.l10_2 (dn_of hi hj (by decide))), l10_5 := fun hj => dn_up (h.l10_5 (dn_of hi hj (by decide))), l10_6 := fun hj => dn_up (h.l10_6 (dn_of hi hj (by decide))), l10_9 := fun hj => dn_up (h.l10_9 (dn_of hi hj (by decide))), l11_0 := fun hj => dn_up (h.l11_0 (dn_of hi hj (by decide))), l11_1 := fun hj => dn_up (h.l11_1 (dn_of hi hj (by decide))), l11_2 := fun hj => dn_up (h.l11_2 (dn_of hi hj (by decide))), l11_3 := fun hj => dn_up (h.l11_3 (dn_of hi hj (by decide))), l11_4 := fun hj => dn_up (h.l11_4 (dn_of hi hj (by decide))), l11_5 := fun hj => dn_up (h.l11_5 (dn_of hi hj (by decide))), l11_6 := fun hj => dn_up (h.l11_6 (dn_of hi hj (by decide))), l11_7 := fun hj => dn_up (h.l11_7 (dn_of hi hj (by decide))), l11_8 := fun hj => dn_up (h.l11_8 (dn_of hi hj (by decide))), l11_9 := fun hj => dn_up (h.l11_9 (dn_of hi hj (by decide))), l11_10 := fun hj => dn_up (h.l11_10 (dn_of hi hj (by decide))), p0 := rp hi h.p0, p1 := rp hi h.p1, p2 := fun _ => set_same (by have := h.siz; omega), p3 := rp hi h.p3, p4 := rp hi h.p4, p5 := rp hi h.p5, p6 := rp hi h.p6, p7 := rp hi h.p7, p8 := rp hi h.p8, p9 := rp hi h.p9 }⟩
            · have hi : 3 < d.size := by omega
              have q8 := h.k8
              have hnd' := not_dn hi hnd
              refine wpOp_plain rfl rfl ?_
              go_simp
              exact ⟨_, rfl, { bel := h.bel, siz := (by simpa using h.siz), kp := rk h.kp, k6 := rs h.k6, k8 := rs h.k8, k9 := rs h.k9, oth := fun hk => h.oth (fun q => hk (dn_up q)), sl := fun hj hk => by obtain ⟨g, e1, e2⟩ := h.sl (dn_of hi hj (by decide)) (fun q => hk (dn_up q)); exact ⟨g, (set_other (by decide)).trans e1, e2⟩, res := fun hj => absurd (h.l11_3 (dn_of hi hj (by decide))) hnd', l2_1 := fun hj => dn_up (h.l2_1 (dn_of hi hj (by decide))), l4_3 := fun hj => dn_up (h.l4_3 (dn_of hi hj (by decide))), l5_4 := fun hj => dn_up (h.l5_4 (dn_of hi hj (by decide))), l8_7 := fun hj => dn_up (h.l8_7 (dn_of hi hj (by decide))), l9_8 := fun hj => dn_up (h.l9_8 (dn_of hi hj (by decide))), l10_2 := fun hj => dn_up (h.l10_2 (dn_of hi hj (by decide))), l10_5 := fun hj => dn_up (h.l10_5 (dn_of hi hj (by decide))), l10_6 := fun hj => dn_up (h.l10_6 (dn_of hi hj (by decide))), l10_9 := fun hj => dn_up (h.l10_9 (dn_of hi hj (by decide))), l11_0 := fun hj => dn_up (h.l11_0 (dn_of hi hj (by decide))), l11_1 := fun hj => dn_up (h.l11_1 (dn_of hi hj (by decide))), l11_2 := fun hj => dn_up (h.l11_2 (dn_of hi hj (by decide))), l11_3 := fun hj => dn_up (h.l11_3 (dn_of hi hj (by decide))), l11_4 := fun hj => dn_up (h.l11_4 (dn_of hi hj (by decide))), l11_5 := fun hj => dn_up (h.l11_5 (dn_of hi hj (by decide))), l11_6 := fun hj => dn_up (h.l11_6 (dn_of hi hj (by decide))), l11_7 := fun hj => dn_up (h.l11_7 (dn_of hi hj (by decide))), l11_8 := fun hj => dn_up (h.l11_8 (dn_of hi hj (by decide))), l11_9 := fun hj => dn_up (h.l11_9 (dn_of hi hj (by decide))), l11_10 := fun hj => dn_up (h.l11_10 (dn_of hi hj (by decide))), p0 := rp hi h.p0, p1 := rp hi h.p1, p2 := rp hi h.p2, p3 := fun _ => set_same (by have := h.siz; omega), p4 := rp hi h.p4, p5 := rp hi h.p5, p6 := rp hi h.p6, p7 := rp hi h.p7, p8 := rp hi h.p8, p9 := rp hi h.p9 }⟩
            · have hi : 4 < d.size := by omega
              have e3 := h.p3 (hpre _ rfl ⟨3, .data⟩ (by simp) rfl)
              have hnd' := not_dn hi hnd
              have h7 : ¬ dn d 11 := fun q => hnd' (h.l11_4 q)
              obtain ⟨m0, m1, m2, m3⟩ := four_cells (((h.oth h7).block eb hE).trans HEN.out)
              refine wpOp_plain rfl rfl ?_
              go_simp
              exact ⟨_, rfl, { bel := h.bel, siz := (by simpa using h.siz), kp := rk h.kp, k6 := rs h.k6, k8 := rs h.k8, k9 := rs h.k9, oth := fun hk => h.oth (fun q => hk (dn_up q)), sl := fun hj hk => by obtain ⟨g, e1, e2⟩ := h.sl (dn_of hi hj (by decide)) (fun q => hk (dn_up q)); exact ⟨g, (set_other (by decide)).trans e1, e2⟩, res := fun hj => absurd (h.l11_4 (dn_of hi hj (by decide))) hnd', l2_1 := fun hj => dn_up (h.l2_1 (dn_of hi hj (by decide))), l4_3 := fun _ => dn_up (hpre _ rfl ⟨3, .data⟩ (by simp) rfl), l5_4 := fun hj => dn_up (h.l5_4 (dn_of hi hj (by decide))), l8_7 := fun hj => dn_up (h.l8_7 (dn_of hi hj (by decide))), l9_8 := fun hj => dn_up (h.l9_8 (dn_of hi hj (by decide))), l10_2 := fun hj => dn_up (h.l10_2 (dn_of hi hj (by decide))), l10_5 := fun hj => dn_up (h.l10_5 (dn_of hi hj (by decide))), l10_6 := fun hj => dn_up (h.l10_6 (dn_of hi hj (by decide))), l10_9 := fun hj => dn_up (h.l10_9 (dn_of hi hj (by decide))), l11_0 := fun hj => dn_up (h.l11_0 (dn_of hi hj (by decide))), l11_1 := fun hj => dn_up (h.l11_1 (dn_of hi hj (by decide))), l11_2 := fun hj => dn_up (h.l11_2 (dn_of hi hj (by decide))), l11_3 := fun hj => dn_up (h.l11_3 (dn_of hi hj (by decide))), l11_4 := fun hj => dn_up (h.l11_4 (dn_of hi hj (by decide))), l11_5 := fun hj => dn_up (h.l11_5 (dn_of hi hj (by decide))), l11_6 := fun hj => dn_up (h.l11_6 (dn_of hi hj (by decide))), l11_7 := fun hj => dn_up (h.l11_7 (dn_of hi hj (by decide))), l11_8 := fun hj => dn_up (h.l11_8 (dn_of hi hj (by decide))), l11_9 := fun hj => dn_up (h.l11_9 (dn_of hi hj (by decide))), l11_10 := fun hj => dn_up (h.l11_10 (dn_of hi hj (by decide))), p0 := rp hi h.p0, p1 := rp hi h.p1, p2 := rp hi h.p2, p3 := rp hi h.p3, p4 := fun _ => set_same (by have := h.siz; omega), p5 := rp hi h.p5, p6 := rp hi h.p6, p7 := rp hi h.p7, p8 := rp hi h.p8, p9 := rp hi h.p9 }⟩
            · have hi : 5 < d.size := by omega
              have hnd' := not_dn hi hnd
              have h7 : ¬ dn d 11 := fun q => hnd' (h.l11_5 q)
              have d4 : dn d 4 := hpre _ rfl ⟨4, .data⟩ (by simp) rfl
              have e4 := h.p4 d4
              refine wpOp_plain rfl rfl ?_
              go_simp
              refine ((HIT.out e.kind hkd) wc (HW0.out.trans ((h.oth h7).mono HW0.out.size))).mono ?_
              rintro e1 w1 ⟨rfl, hb⟩
              exact ⟨_, rfl, { bel := h.bel.trans (hb.mono (by have := (h.oth h7).size; omega)), siz := (by simpa using h.siz), kp := rk h.kp, k6 := rs h.k6, k8 := rs h.k8, k9 := rs h.k9, oth := fun hk => (h.oth (fun q => hk (dn_up q))).trans (hb.mono (h.oth (fun q => hk (dn_up q))).size), sl := fun hj hk => by obtain ⟨g, e1, e2⟩ := h.sl (dn_of hi hj (by decide)) (fun q => hk (dn_up q)); exact ⟨g, (set_other (by decide)).trans e1, (e2.below hb).more hb.size⟩, res := fun hj => absurd (h.l11_5 (dn_of hi hj (by decide))) hnd', l2_1 := fun hj => dn_up (h.l2_1 (dn_of hi hj (by decide))), l4_3 := fun hj => dn_up (h.l4_3 (dn_of hi hj (by decide))), l5_4 := fun _ => dn_up (hpre _ rfl ⟨4, .data⟩ (by simp) rfl), l8_7 := fun hj => dn_up (h.l8_7 (dn_of hi hj (by decide))), l9_8 := fun hj => dn_up (h.l9_8 (dn_of hi hj (by decide))), l10_2 := fun hj => dn_up (h.l10_2 (dn_of hi hj (by decide))), l10_5 := fun hj => dn_up (h.l10_5 (dn_of hi hj (by decide))), l10_6 := fun hj => dn_up (h.l10_6 (dn_of hi hj (by decide))), l10_9 := fun hj => dn_up (h.l10_9 (dn_of hi hj (by decide))), l11_0 := fun hj => dn_up (h.l11_0 (dn_of hi hj (by decide))), l11_1 := fun hj => dn_up (h.l11_1 (dn_of hi hj (by decide))), l11_2 := fun hj => dn_up (h.l11_2 (dn_of hi hj (by decide))), l11_3 := fun hj => dn_up (h.l11_3 (dn_of hi hj (by decide))), l11_4 := fun hj => dn_up (h.l11_4 (dn_of hi hj (by decide))), l11_5 := fun hj => dn_up (h.l11_5 (dn_of hi hj (by decide))), l11_6 := fun hj => dn_up (h.l11_6 (dn_of hi hj (by decide))), l11_7 := fun hj => dn_up (h.l11_7 (dn_of hi hj (by decide))), l11_8 := fun hj => dn_up (h.l11_8 (dn_of hi hj (by decide))), l11_9 := fun hj => dn_up (h.l11_9 (dn_of hi hj (by decide))), l11_10 := fun hj => dn_up (h.l11_10 (dn_of hi hj (by decide))), p0 := rp hi h.p0, p1 := rp hi h.p1, p2 := rp hi h.p2, p3 := rp hi h.p3, p4 := rp hi h.p4, p5 := fun _ => set_same (by have := h.siz; omega), p6 := rp hi h.p6, p7 := rp hi h.p7, p8 := rp hi h.p8, p9 := rp hi h.p9 }⟩
            · have hi : 6 < d.size := by omega
              have q9 := h.k9
              have hnd' := not_dn hi hnd
              refine wpOp_plain rfl rfl ?_
              go_simp
              exact ⟨_, rfl, { bel := h.bel, siz := (by simpa using h.siz), kp := rk h.kp, k6 := rs h.k6, k8 := rs h.k8, k9 := rs h.k9, oth := fun hk => h.oth (fun q => hk (dn_up q)), sl := fun hj hk => by obtain ⟨g, e1, e2⟩ := h.sl (dn_of hi hj (by decide)) (fun q => hk (dn_up q)); exact ⟨g, (set_other (by decide)).trans e1, e2⟩, res := fun hj => absurd (h.l11_6 (dn_of hi hj (by decide))) hnd', l2_1 := fun hj => dn_up (h.l2_1 (dn_of hi hj (by decide))), l4_3 := fun hj => dn_up (h.l4_3 (dn_of hi hj (by decide))), l5_4 := fun hj => dn_up (h.l5_4 (dn_of hi hj (by decide))), l8_7 := fun hj => dn_up (h.l8_7 (dn_of hi hj (by decide))), l9_8 := fun hj => dn_up (h.l9_8 (dn_of hi hj (by decide))), l10_2 := fun hj => dn_up (h.l10_2 (dn_of hi hj (by decide))), l10_5 := fun hj => dn_up (h.l10_5 (dn_of hi hj (by decide))), l10_6 := fun hj => dn_up (h.l10_6 (dn_of hi hj (by decide))), l10_9 := fun hj => dn_up (h.l10_9 (dn_of hi hj (by decide))), l11_0 := fun hj => dn_up (h.l11_0 (dn_of hi hj (by decide))), l11_1 := fun hj => dn_up (h.l11_1 (dn_of hi hj (by decide))), l11_2 := fun hj => dn_up (h.l11_2 (dn_of hi hj (by decide))), l11_3 := fun hj => dn_up (h.l11_3 (dn_of hi hj (by decide))), l11_4 := fun hj => dn_up (h.l11_4 (dn_of hi hj (by decide))), l11_5 := fun hj => dn_up (h.l11_5 (dn_of hi hj (by decide))), l11_6 := fun hj => dn_up (h.l11_6 (dn_of hi hj (by decide))), l11_7 := fun hj => dn_up (h.l11_7 (dn_of hi hj (by decide))), l11_8 := fun hj => dn_up (h.l11_8 (dn_of hi hj (by decide))), l11_9 := fun hj => dn_up (h.l11_9 (dn_of hi hj (by decide))), l11_10 := fun hj => dn_up (h.l11_10 (dn_of hi hj (by decide))), p0 := rp hi h.p0, p1 := rp hi h.p1, p2 := rp hi h.p2, p3 := rp hi h.p3, p4 := rp hi h.p4, p5 := rp hi h.p5, p6 := fun _ => set_same (by have := h.siz; omega), p7 := rp hi h.p7, p8 := rp hi h.p8, p9 := rp hi h.p9 }⟩
            · have hi : 7 < d.size := by omega
              have q8 := h.k8
              have hnd' := not_dn hi hnd
              refine wpOp_plain rfl rfl ?_
              go_simp
              exact ⟨_, rfl, { bel := h.bel, siz := (by simpa using h.siz), kp := rk h.kp, k6 := rs h.k6, k8 := rs h.k8, k9 := rs h.k9, oth := fun hk => h.oth (fun q => hk (dn_up q)), sl := fun hj hk => by obtain ⟨g, e1, e2⟩ := h.sl (dn_of hi hj (by decide)) (fun q => hk (dn_up q)); exact ⟨g, (set_other (by decide)).trans e1, e2⟩, res := fun hj => absurd (h.l11_7 (dn_of hi hj (by decide))) hnd', l2_1 := fun hj => dn_up (h.l2_1 (dn_of hi hj (by decide))), l4_3 := fun hj => dn_up (h.l4_3 (dn_of hi hj (by decide))), l5_4 := fun hj => dn_up (h.l5_4 (dn_of hi hj (by decide))), l8_7 := fun hj => dn_up (h.l8_7 (dn_of hi hj (by decide))), l9_8 := fun hj => dn_up (h.l9_8 (dn_of hi hj (by decide))), l10_2 := fun hj => dn_up (h.l10_2 (dn_of hi hj (by decide))), l10_5 := fun hj => dn_up (h.l10_5 (dn_of hi hj (by decide))), l10_6 := fun hj => dn_up (h.l10_6 (dn_of hi hj (by decide))), l10_9 := fun hj => dn_up (h.l10_9 (dn_of hi hj (by decide))), l11_0 := fun hj => dn_up (h.l11_0 (dn_of hi hj (by decide))), l11_1 := fun hj => dn_up (h.l11_1 (dn_of hi hj (by decide))), l11_2 := fun hj => dn_up (h.l11_2 (dn_of hi hj (by decide))), l11_3 := fun hj => dn_up (h.l11_3 (dn_of hi hj (by decide))), l11_4 := fun hj => dn_up (h.l11_4 (dn_of hi hj (by decide))), l11_5 := fun hj => dn_up (h.l11_5 (dn_of hi hj (by decide))), l11_6 := fun hj => dn_up (h.l11_6 (dn_of hi hj (by decide))), l11_7 := fun hj => dn_up (h.l11_7 (dn_of hi hj (by decide))), l11_8 := fun hj => dn_up (h.l11_8 (dn_of hi hj (by decide))), l11_9 := fun hj => dn_up (h.l11_9 (dn_of hi hj (by decide))), l11_10 := fun hj => dn_up (h.l11_10 (dn_of hi hj (by decide))), p0 := rp hi h.p0, p1 := rp hi h.p1, p2 := rp hi h.p2, p3 := rp hi h.p3, p4 := rp hi h.p4, p5 := rp hi h.p5, p6 := rp hi h.p6, p7 := fun _ => set_same (by have := h.siz; omega), p8 := rp hi h.p8, p9 := rp hi h.p9 }⟩
            · have hi : 8 < d.size := by omega
              have e7 := h.p7 (hpre _ rfl ⟨7, .data⟩ (by simp) rfl)
              have hnd' := not_dn hi hnd
              have h7 : ¬ dn d 11 := fun q => hnd' (h.l11_8 q)
              obtain ⟨m0, m1, m2, m3⟩ := four_cells (((h.oth h7).block eb hE).trans HEN.out)
              refine wpOp_plain rfl rfl ?_
              go_simp
              exact ⟨_, rfl, { bel := h.bel, siz := (by simpa using h.siz), kp := rk h.kp, k6 := rs h.k6, k8 := rs h.k8, k9 := rs h.k9, oth := fun hk => h.oth (fun q => hk (dn_up q)), sl := fun hj hk => by obtain ⟨g, e1, e2⟩ := h.sl (dn_of hi hj (by decide)) (fun q => hk (dn_up q)); exact ⟨g, (set_other (by decide)).trans e1, e2⟩, res := fun hj => absurd (h.l11_8 (dn_of hi hj (by decide))) hnd', l2_1 := fun hj => dn_up (h.l2_1 (dn_of hi hj (by decide))), l4_3 := fun hj => dn_up (h.l4_3 (dn_of hi hj (by decide))), l5_4 := fun hj => dn_up (h.l5_4 (dn_of hi hj (by decide))), l8_7 := fun _ => dn_up (hpre _ rfl ⟨7, .data⟩ (by simp) rfl), l9_8 := fun hj => dn_up (h.l9_8 (dn_of hi hj (by decide))), l10_2 := fun hj => dn_up (h.l10_2 (dn_of hi hj (by decide))), l10_5 := fun hj => dn_up (h.l10_5 (dn_of hi hj (by decide))), l10_6 := fun hj => dn_up (h.l10_6 (dn_of hi hj (by decide))), l10_9 := fun hj => dn_up (h.l10_9 (dn_of hi hj (by decide))), l11_0 := fun hj => dn_up (h.l11_0 (dn_of hi hj (by decide))), l11_1 := fun hj => dn_up (h.l11_1 (dn_of hi hj (by decide))), l11_2 := fun hj => dn_up (h.l11_2 (dn_of hi hj (by decide))), l11_3 := fun hj => dn_up (h.l11_3 (dn_of hi hj (by decide))), l11_4 := fun hj => dn_up (h.l11_4 (dn_of hi hj (by decide))), l11_5 := fun hj => dn_up (h.l11_5 (dn_of hi hj (by decide))), l11_6 := fun hj => dn_up (h.l11_6 (dn_of hi hj (by decide))), l11_7 := fun hj => dn_up (h.l11_7 (dn_of hi hj (by decide))), l11_8 := fun hj => dn_up (h.l11_8 (dn_of hi hj (by decide))), l11_9 := fun hj => dn_up (h.l11_9 (dn_of hi hj (by decide))), l11_10 := fun hj => dn_up (h.l11_10 (dn_of hi hj (by decide))), p0 := rp hi h.p0, p1 := rp hi h.p1, p2 := rp hi h.p2, p3 := rp hi h.p3, p4 := rp hi h.p4, p5 := rp hi h.p5, p6 := rp hi h.p6, p7 := rp hi h.p7, p8 := fun _ => set_same (by have := h.siz; omega), p9 := rp hi h.p9 }⟩
            · have hi : 9 < d.size := by omega
              have hnd' := not_dn hi hnd
              have h7 : ¬ dn d 11 := fun q => hnd' (h.l11_9 q)
              have d8 : dn d 8 := hpre _ rfl ⟨8, .data⟩ (by simp) rfl
              have e8 := h.p8 d8
              refine wpOp_plain rfl rfl ?_
              go_simp
              refine ((HIT.out e.weight hwt) wc (HW0.out.trans ((h.oth h7).mono HW0.out.size))).mono ?_
              rintro e1 w1 ⟨rfl, hb⟩
              exact ⟨_, rfl, { bel := h.bel.trans (hb.mono (by have := (h.oth h7).size; omega)), siz := (by simpa using h.siz), kp := rk h.kp, k6 := rs h.k6, k8 := rs h.k8, k9 := rs h.k9, oth := fun hk => (h.oth (fun q => hk (dn_up q))).trans (hb.mono (h.oth (fun q => hk (dn_up q))).size), sl := fun hj hk => by obtain ⟨g, e1, e2⟩ := h.sl (dn_of hi hj (by decide)) (fun q => hk (dn_up q)); exact ⟨g, (set_other (by decide)).trans e1, (e2.below hb).more hb.size⟩, res := fun hj => absurd (h.l11_9 (dn_of hi hj (by decide))) hnd', l2_1 := fun hj => dn_up (h.l2_1 (dn_of hi hj (by decide))), l4_3 := fun hj => dn_up (h.l4_3 (dn_of hi hj (by decide))), l5_4 := fun hj => dn_up (h.l5_4 (dn_of hi hj (by decide))), l8_7 := fun hj => dn_up (h.l8_7 (dn_of hi hj (by decide))), l9_8 := fun _ => dn_up (hpre _ rfl ⟨8, .data⟩ (by simp) rfl), l10_2 := fun hj => dn_up (h.l10_2 (dn_of hi hj (by decide))), l10_5 := fun hj => dn_up (h.l10_5 (dn_of hi hj (by decide))), l10_6 := fun hj => dn_up (h.l10_6 (dn_of hi hj (by decide))), l10_9 := fun hj => dn_up (h.l10_9 (dn_of hi hj (by decide))), l11_0 := fun hj => dn_up (h.l11_0 (dn_of hi hj (by decide))), l11_1 := fun hj => dn_up (h.l11_1 (dn_of hi hj (by decide))), l11_2 := fun hj => dn_up (h.l11_2 (dn_of hi hj (by decide))), l11_3 := fun hj => dn_up (h.l11_3 (dn_of hi hj (by decide))), l11_4 := fun hj => dn_up (h.l11_4 (dn_of hi hj (by decide))), l11_5 := fun hj => dn_up (h.l11_5 (dn_of hi hj (by decide))), l11_6 := fun hj => dn_up (h.l11_6 (dn_of hi hj (by decide))), l11_7 := fun hj => dn_up (h.l11_7 (dn_of hi hj (by decide))), l11_8 := fun hj => dn_up (h.l11_8 (dn_of hi hj (by decide))), l11_9 := fun hj => dn_up (h.l11_9 (dn_of hi hj (by decide))), l11_10 := fun hj => dn_up (h.l11_10 (dn_of hi hj (by decide))), p0 := rp hi h.p0, p1 := rp hi h.p1, p2 := rp hi h.p2, p3 := rp hi h.p3, p4 := rp hi h.p4, p5 := rp hi h.p5, p6 := rp hi h.p6, p7 := rp hi h.p7, p8 := rp hi h.p8, p9 := fun _ => set_same (by have := h.siz; omega) }⟩
            · have hi : 10 < d.size := by omega
              have hnd' := not_dn hi hnd
              have h7 : ¬ dn d 11 := fun q => hnd' (h.l11_10 q)
              have d2 : dn d 2 := hpre _ rfl ⟨2, .data⟩ (by simp) rfl
              have d5 : dn d 5 := hpre _ rfl ⟨5, .data⟩ (by simp) rfl
              have d6 : dn d 6 := hpre _ rfl ⟨6, .data⟩ (by simp) rfl
              have d9 : dn d 9 := hpre _ rfl ⟨9, .data⟩ (by simp) rfl
              have e2 := h.p2 d2
              have e5 := h.p5 d5
              have e6 := h.p6 d6
              have e9 := h.p9 d9
              have hb : Below wc.heap.size wc (wc.alloc (.cells #[.string (⟨#[119, 111, 114, 100]⟩ : ByteArray), .string e.root, .string (⟨(Lib.itoa e.kind).toArray⟩ : ByteArray), .string e.cls, .string (⟨(Lib.itoa e.weight).toArray⟩ : ByteArray)] 9)) := (Below.refl _ _).alloc (Nat.le_refl _) _
              refine wpOp_plain rfl rfl ?_
              go_simp
              exact ⟨_, rfl, { bel := h.bel.trans (hb.mono (by have := (h.oth h7).size; omega)), siz := (by simpa using h.siz), kp := rk h.kp, k6 := rs h.k6, k8 := rs h.k8, k9 := rs h.k9, oth := fun hk => (h.oth (fun q => hk (dn_up q))).trans (hb.mono (h.oth (fun q => hk (dn_up q))).size), sl := fun _ _ => ⟨wc.heap.size, set_same (by have := h.siz; omega), rds_block (xs := [(⟨#[119, 111, 114, 100]⟩ : ByteArray), e.root, (⟨(Lib.itoa e.kind).toArray⟩ : ByteArray), e.cls, (⟨(Lib.itoa e.weight).toArray⟩ : ByteArray)]) len_str (heap_alloc_new _ _) rfl (by simp) (Nat.le_refl 5) (by decide)⟩, res := fun hj => absurd (h.l11_10 (dn_of hi hj (by decide))) hnd', l2_1 := fun hj => dn_up (h.l2_1 (dn_of hi hj (by decide))), l4_3 := fun hj => dn_up (h.l4_3 (dn_of hi hj (by decide))), l5_4 := fun hj => dn_up (h.l5_4 (dn_of hi hj (by decide))), l8_7 := fun hj => dn_up (h.l8_7 (dn_of hi hj (by decide))), l9_8 := fun hj => dn_up (h.l9_8 (dn_of hi hj (by decide))), l10_2 := fun _ => dn_up (hpre _ rfl ⟨2, .data⟩ (by simp) rfl), l10_5 := fun _ => dn_up (hpre _ rfl ⟨5, .data⟩ (by simp) rfl), l10_6 := fun _ => dn_up (hpre _ rfl ⟨6, .data⟩ (by simp) rfl), l10_9 := fun _ => dn_up (hpre _ rfl ⟨9, .data⟩ (by simp) rfl), l11_0 := fun hj => dn_up (h.l11_0 (dn_of hi hj (by decide))), l11_1 := fun hj => dn_up (h.l11_1 (dn_of hi hj (by decide))), l11_2 := fun hj => dn_up (h.l11_2 (dn_of hi hj (by decide))), l11_3 := fun hj => dn_up (h.l11_3 (dn_of hi hj (by decide))), l11_4 := fun hj => dn_up (h.l11_4 (dn_of hi hj (by decide))), l11_5 := fun hj => dn_up (h.l11_5 (dn_of hi hj (by decide))), l11_6 := fun hj => dn_up (h.l11_6 (dn_of hi hj (by decide))), l11_7 := fun hj => dn_up (h.l11_7 (dn_of hi hj (by decide))), l11_8 := fun hj => dn_up (h.l11_8 (dn_of hi hj (by decide))), l11_9 := fun hj => dn_up (h.l11_9 (dn_of hi hj (by decide))), l11_10 := fun hj => dn_up (h.l11_10 (dn_of hi hj (by decide))), p0 := rp hi h.p0, p1 := rp hi h.p1, p2 := rp hi h.p2, p3 := rp hi h.p3, p4 := rp hi h.p4, p5 := rp hi h.p5, p6 := rp hi h.p6, p7 := rp hi h.p7, p8 := rp hi h.p8, p9 := rp hi h.p9 }⟩
            · have hi : 11 < d.size := by omega
              have hnd' := not_dn hi hnd
              have d0 : dn d 0 := hpre _ rfl ⟨0, .data⟩ (by simp) rfl
              have d10 : dn d 10 := hpre _ rfl ⟨10, .data⟩ (by simp) rfl
              have d2 : dn d 2 := h.l10_2 d10
              have d5 : dn d 5 := h.l10_5 d10
              have d6 : dn d 6 := h.l10_6 d10
              have d9 : dn d 9 := h.l10_9 d10
              have d1 : dn d 1 := h.l2_1 d2
              have d4 : dn d 4 := h.l5_4 d5
              have d8 : dn d 8 := h.l9_8 d9
              have d3 : dn d 3 := h.l4_3 d4
              have d7 : dn d 7 := h.l8_7 d8
              have e0 := h.p0 d0
              obtain ⟨g, e10, r10⟩ := h.sl d10 hnd'
              have hot := h.oth hnd'
              have hos := hot.size
              refine wpOp_plain rfl rfl ?_
              go_simp
              refine (Format1_any bb l _ [(⟨#[119, 111, 114, 100]⟩ : ByteArray), e.root, (⟨(Lib.itoa e.kind).toArray⟩ : ByteArray), e.cls, (⟨(Lib.itoa e.weight).toArray⟩ : ByteArray)] wc (isBuilder_below HIB.out hot) (by omega) r10 (by show 0 < 5; omega) (by show 5 ≤ 10; omega) HLZ.out HLL.out).mono ?_
              rintro e1 w1 ⟨rfl, hib, hb⟩
              exact ⟨_, rfl, { bel := (hot.mono (by omega)).trans hb, siz := (by simpa using h.siz), kp := rk h.kp, k6 := rs h.k6, k8 := rs h.k8, k9 := rs h.k9, oth := fun hk => absurd (dn_self hi) hk, sl := fun _ hk => absurd (dn_self hi) hk, res := fun _ => hib, l2_1 := fun hj => dn_up (h.l2_1 (dn_of hi hj (by decide))), l4_3 := fun hj => dn_up (h.l4_3 (dn_of hi hj (by decide))), l5_4 := fun hj => dn_up (h.l5_4 (dn_of hi hj (by decide))), l8_7 := fun hj => dn_up (h.l8_7 (dn_of hi hj (by decide))), l9_8 := fun hj => dn_up (h.l9_8 (dn_of hi hj (by decide))), l10_2 := fun hj => dn_up (h.l10_2 (dn_of hi hj (by decide))), l10_5 := fun hj => dn_up (h.l10_5 (dn_of hi hj (by decide))), l10_6 := fun hj => dn_up (h.l10_6 (dn_of hi hj (by decide))), l10_9 := fun hj => dn_up (h.l10_9 (dn_of hi hj (by decide))), l11_0 := fun _ => dn_up d0, l11_1 := fun _ => dn_up d1, l11_2 := fun _ => dn_up d2, l11_3 := fun _ => dn_up d3, l11_4 := fun _ => dn_up d4, l11_5 := fun _ => dn_up d5, l11_6 := fun _ => dn_up d6, l11_7 := fun _ => dn_up d7, l11_8 := fun _ => dn_up d8, l11_9 := fun _ => dn_up d9, l11_10 := fun _ => dn_up d10, p0 := rp hi h.p0, p1 := rp hi h.p1, p2 := rp hi h.p2, p3 := rp hi h.p3, p4 := rp hi h.p4, p5 := rp hi h.p5, p6 := rp hi h.p6, p7 := rp hi h.p7, p8 := rp hi h.p8, p9 := rp hi h.p9 }⟩
          case gendw =>
            intro d a wc hd hI hall
            obtain ⟨t, rfl, h⟩ := hI
            have hdn : ∀ j, j < 12 → dn d j := fun j hj => dn_all hd hall hj
            have hd : ∀ j, (_ : j < 12 := by decide) → dn d j := fun j hj => hdn j hj
            obtain ⟨t41, x41⟩ : ∃ v, t[41]? = some v := ⟨_, Array.getElem?_eq_getElem (by have := h.siz; omega)⟩
            obtain ⟨t42, x42⟩ : ∃ v, t[42]? = some v := ⟨_, Array.getElem?_eq_getElem (by have := h.siz; omega)⟩
            have hfe := frame_eq [(31, _), (32, _), (33, _), (34, _), (35, _), (36, _), (37, _), (38, _), (39, _), (40, _), (41, _), (42, _)] (h.siz.trans rfl) h.kp rfl ⟨h.p0 (hd 0), h.p1 (hd 1), h.p2 (hd 2), h.p3 (hd 3), h.p4 (hd 4), h.p5 (hd 5), h.p6 (hd 6), h.p7 (hd 7), h.p8 (hd 8), h.p9 (hd 9), x41, x42, trivial⟩
            simp only [List.foldl_cons, List.foldl_nil, List.setIfInBounds_toArray, List.set_cons_succ, List.set_cons_zero] at hfe
            have hbc := h.bel
            subst hfe
            have hres := h.res (hd 11)
            clear h hdn hall hd
            have hbc' := hbc
            have hres' := hres
            clear hbc hres
            rw [← HWS.out] at hres'
            have HRES := Lib.hid hres'
            have HBC := Lib.hid (HBR0.out.trans hbc')
            clear hres' hbc'
            go_wp2_with fail
            go_roundg (x.entries.length - (k + 1))
            case measure => omega
            case rel => exact ⟨k + 1, by omega, rfl, by go_num, by rw [Lx.flat_take HK.out, ← HLN.out]; exact HRES.out, HBC.out⟩
        · have hd := Lx.dashB_in hc
          have HWS : Hid (Lx.lineL (Lx.wordL e) = Lx.lineL ([(⟨#[119, 111, 114, 100]⟩ : ByteArray), e.root, (⟨(Lib.itoa e.kind).toArray⟩ : ByteArray), (⟨#[45]⟩ : ByteArray), (⟨(Lib.itoa e.weight).toArray⟩ : ByteArray)].map (·.data.toList))) := Lib.hid (by unfold _root_.Lx.wordL; rw [hd]; rfl)
          have HLZ : Hid ((Lx.lineL ([(⟨#[119, 111, 114, 100]⟩ : ByteArray), e.root, (⟨(Lib.itoa e.kind).toArray⟩ : ByteArray), (⟨#[45]⟩ : ByteArray), (⟨(Lib.itoa e.weight).toArray⟩ : ByteArray)].map (·.data.toList))).length ≤ 100000) := Lib.hid (by rw [← HWS.out]; have := Lx.word_len HE.out; omega)
          clear hd
          go_upto_region 12 with fail
          refine wp_region_inv2T (fun T0 => FwI T0 W0 bb eb l e.root e.kind (⟨#[45]⟩ : ByteArray) e.weight) (by kernel_rfl) (by kernel_rfl) ?g0w ?gstepw ?gendw
          case g0w =>
            have hno : ∀ j, ¬ dn (Array.replicate 12 false) j := by
              intro j; unfold dn; by_cases hj : j < 12 <;> simp [Array.getD, hj]
            have na : ∀ {j : Nat} {Z : Prop}, dn (Array.replicate 12 false) j → Z := fun hj => absurd hj (hno _)
            exact ⟨_, rfl, { bel := (Below.refl _ _).drew, siz := rfl, kp := fun _ _ => rfl, k6 := rfl, k8 := rfl, k9 := rfl, p0 := na, p1 := na, p2 := na, p3 := na, p4 := na, p5 := na, p6 := na, p7 := na, p8 := na, p9 := na, oth := fun _ => (Below.refl _ _).drew, sl := fun hj => absurd hj (hno _), res := fun hj => absurd hj (hno _), l2_1 := fun hj => absurd hj (hno _), l4_3 := fun hj => absurd hj (hno _), l5_4 := fun hj => absurd hj (hno _), l8_7 := fun hj => absurd hj (hno _), l9_8 := fun hj => absurd hj (hno _), l10_2 := fun hj => absurd hj (hno _), l10_5 := fun hj => absurd hj (hno _), l10_6 := fun hj => absurd hj (hno _), l10_9 := fun hj => absurd hj (hno _), l11_0 := fun hj => absurd hj (hno _), l11_1 := fun hj => absurd hj (hno _), l11_2 := fun hj => absurd hj (hno _), l11_3 := fun hj => absurd hj (hno _), l11_4 := fun hj => absurd hj (hno _), l11_5 := fun hj => absurd hj (hno _), l11_6 := fun hj => absurd hj (hno _), l11_7 := fun hj => absurd hj (hno _), l11_8 := fun hj => absurd hj (hno _), l11_9 := fun hj => absurd hj (hno _), l11_10 := fun hj => absurd hj (hno _) }⟩
          case gstepw =>
            intro T0 d a wc i hd hI hi
            obtain ⟨hlt, hnd, hpre⟩ := mem_ready hi
            have hd' : d.size = 12 := hd
            have hin : i < 12 := hlt
            clear hi hd hlt
            obtain ⟨t, rfl, h⟩ := hI
            have hcs : i = 0 ∨ i = 1 ∨ i = 2 ∨ i = 3 ∨ i = 4 ∨ i = 5 ∨ i = 6 ∨ i = 7 ∨ i = 8 ∨ i = 9 ∨ i = 10 ∨ i = 11 := by omega
            rcases hcs with rfl | rfl | rfl | rfl | rfl | rfl | rfl | rfl | rfl | rfl | rfl | rfl
            · have hi : 0 < d.size := by omega
              have q6 := h.k6
              have hnd' := not_dn hi hnd
              refine wpOp_plain rfl rfl ?_
              go_simp
              exact ⟨_, rfl, { bel := h.bel, siz := (by simpa using h.siz), kp := rk h.kp, k6 := rs h.k6, k8 := rs h.k8, k9 := rs h.k9, oth := fun hk => h.oth (fun q => hk (dn_up q)), sl := fun hj hk => by obtain ⟨g, e1, e2⟩ := h.sl (dn_of hi hj (by decide)) (fun q => hk (dn_up q)); exact ⟨g, (set_other (by decide)).trans e1, e2⟩, res := fun hj => absurd (h.l11_0 (dn_of hi hj (by decide))) hnd', l2_1 := fun hj => dn_up (h.l2_1 (dn_of hi hj (by decide))), l4_3 := fun hj => dn_up (h.l4_3 (dn_of hi hj (by decide))), l5_4 := fun hj => dn_up (h.l5_4 (dn_of hi hj (by decide))), l8_7 := fun hj => dn_up (h.l8_7 (dn_of hi hj (by decide))), l9_8 := fun hj => dn_up (h.l9_8 (dn_of hi hj (by decide))), l10_2 := fun hj => dn_up (h.l10_2 (dn_of hi hj (by decide))), l10_5 := fun hj => dn_up (h.l10_5 (dn_of hi hj (by decide))), l10_6 := fun hj => dn_up (h.l10_6 (dn_of hi hj (by decide))), l10_9 := fun hj => dn_up (h.l10_9 (dn_of hi hj (by decide))), l11_0 := fun hj => dn_up (h.l11_0 (dn_of hi hj (by decide))), l11_1 := fun hj => dn_up (h.l11_1 (dn_of hi hj (by decide))), l11_2 := fun hj => dn_up (h.l11_2 (dn_of hi hj (by decide))), l11_3 := fun hj => dn_up (h.l11_3 (dn_of hi hj (by decide))), l11_4 := fun hj => dn_up (h.l11_4 (dn_of hi hj (by decide))), l11_5 := fun hj => dn_up (h.l11_5 (dn_of hi hj (by decide))), l11_6 := fun hj => dn_up (h.l11_6 (dn_of hi hj (by decide))), l11_7 := fun hj => dn_up (h.l11_7 (dn_of hi hj (by decide))), l11_8 := fun hj => dn_up (h.l11_8 (dn_of hi hj (by decide))), l11_9 := fun hj => dn_up (h.l11_9 (dn_of hi hj (by decide))), l11_10 := fun hj => dn_up (h.l11_10 (dn_of hi hj (by decide))), p0 := fun _ => set_same (by have := h.siz; omega), p1 := rp hi h.p1, p2 := rp hi h.p2, p3 := rp hi h.p3, p4 := rp hi h.p4, p5 := rp hi h.p5, p6 := rp hi h.p6, p7 := rp hi h.p7, p8 := rp hi h.p8, p9 := rp hi h.p9 }⟩
            · have hi : 1 < d.size := by omega
              have q8 := h.k8
              have hnd' := not_dn hi hnd
              refine wpOp_plain rfl rfl ?_
              go_simp
              exact ⟨_, rfl, { bel := h.bel, siz := (by simpa using h.siz), kp := rk h.kp, k6 := rs h.k6, k8 := rs h.k8, k9 := rs h.k9, oth := fun hk => h.oth (fun q => hk (dn_up q)), sl := fun hj hk => by obtain ⟨g, e1, e2⟩ := h.sl (dn_of hi hj (by decide)) (fun q => hk (dn_up q)); exact ⟨g, (set_other (by decide)).trans e1, e2⟩, res := fun hj => absurd (h.l11_1 (dn_of hi hj (by decide))) hnd', l2_1 := fun hj => dn_up (h.l2_1 (dn_of hi hj (by decide))), l4_3 := fun hj => dn_up (h.l4_3 (dn_of hi hj (by decide))), l5_4 := fun hj => dn_up (h.l5_4 (dn_of hi hj (by decide))), l8_7 := fun hj => dn_up (h.l8_7 (dn_of hi hj (by decide))), l9_8 := fun hj => dn_up (h.l9_8 (dn_of hi hj (by decide))), l10_2 := fun hj => dn_up (h.l10_2 (dn_of hi hj (by decide))), l10_5 := fun hj => dn_up (h.l10_5 (dn_of hi hj (by decide))), l10_6 := fun hj => dn_up (h.l10_6 (dn_of hi hj (by decide))), l10_9 := fun hj => dn_up (h.l10_9 (dn_of hi hj (by decide))), l11_0 := fun hj => dn_up (h.l11_0 (dn_of hi hj (by decide))), l11_1 := fun hj => dn_up (h.l11_1 (dn_of hi hj (by decide))), l11_2 := fun hj => dn_up (h.l11_2 (dn_of hi hj (by decide))), l11_3 := fun hj => dn_up (h.l11_3 (dn_of hi hj (by decide))), l11_4 := fun hj => dn_up (h.l11_4 (dn_of hi hj (by decide))), l11_5 := fun hj => dn_up (h.l11_5 (dn_of hi hj (by decide))), l11_6 := fun hj => dn_up (h.l11_6 (dn_of hi hj (by decide))), l11_7 := fun hj => dn_up (h.l11_7 (dn_of hi hj (by decide))), l11_8 := fun hj => dn_up (h.l11_8 (dn_of hi hj (by decide))), l11_9 := fun hj => dn_up (h.l11_9 (dn_of hi hj (by decide))), l11_10 := fun hj => dn_up (h.l11_10 (dn_of hi hj (by decide))), p0 := rp hi h.p0, p1 := fun _ => set_same (by have := h.siz; omega), p2 := rp hi h.p2, p3 := rp hi h.p3, p4 := rp hi h.p4, p5 := rp hi h.p5, p6 := rp hi h.p6, p7 := rp hi h.p7, p8 := rp hi h.p8, p9 := rp hi h.p9 }⟩
            · have hi : 2 < d.size := by omega
              have e1 := h.p1 (hpre _ rfl ⟨1, .data⟩ (by simp) rfl)
              have hnd' := not_dn hi hnd
              have h7 : ¬ dn d 11 := fun q => hnd' (h.l11_2 q)
              obtain ⟨m0, m1, m2, m3⟩ := four_cells (((h.oth h7).block eb hE).trans HEN.out)
              refine wpOp_plain rfl rfl ?_
              go_simp
              exact ⟨_, rfl, { bel := h.bel, siz := (by simpa using h.siz), kp := rk h.kp, k6 := rs h.k6, k8 := rs h.k8, k9 := rs h.k9, oth := fun hk => h.oth (fun q => hk (dn_up q)), sl := fun hj hk => by obtain ⟨g, e1, e2⟩ := h.sl (dn_of hi hj (by decide)) (fun q => hk (dn_up q)); exact ⟨g, (set_other (by decide)).trans e1, e2⟩, res := fun hj => absurd (h.l11_2 (dn_of hi hj (by decide))) hnd', l2_1 := fun _ => dn_up (hpre _ rfl ⟨1, .data⟩ (by simp) rfl), l4_3 := fun hj => dn_up (h.l4_3 (dn_of hi hj (by decide))), l5_4 := fun hj => dn_up (h.l5_4 (dn_of hi hj (by decide))), l8_7 := fun hj => dn_up (h.l8_7 (dn_of hi hj (by decide))), l9_8 := fun hj => dn_up (h.l9_8 (dn_of hi hj (by decide))), l10_2 := fun hj => dn_up (h.l10_2 (dn_of hi hj (by decide))), l10_5 := fun hj => dn_up (h.l10_5 (dn_of hi hj (by decide))), l10_6 := fun hj => dn_up (h.l10_6 (dn_of hi hj (by decide))), l10_9 := fun hj => dn_up (h.l10_9 (dn_of hi hj (by decide))), l11_0 := fun hj => dn_up (h.l11_0 (dn_of hi hj (by decide))), l11_1 := fun hj => dn_up (h.l11_1 (dn_of hi hj (by decide))), l11_2 := fun hj => dn_up (h.l11_2 (dn_of hi hj (by decide))), l11_3 := fun hj => dn_up (h.l11_3 (dn_of hi hj (by decide))), l11_4 := fun hj => dn_up (h.l11_4 (dn_of hi hj (by decide))), l11_5 := fun hj => dn_up (h.l11_5 (dn_of hi hj (by decide))), l11_6 := fun hj => dn_up (h.l11_6 (dn_of hi hj (by decide))), l11_7 := fun hj => dn_up (h.l11_7 (dn_of hi hj (by decide))), l11_8 := fun hj => dn_up (h.l11_8 (dn_of hi hj (by decide))), l11_9 := fun hj => dn_up (h.l11_9 (dn_of hi hj (by decide))), l11_10 := fun hj => dn_up (h.l11_10 (dn_of hi hj (by decide))), p0 := rp hi h.p0, p1 := rp hi h.p1, p2 := fun _ => set_same (by have := h.siz; omega), p3 := rp hi h.p3, p4 := rp hi h.p4, p5 := rp hi h.p5, p6 := rp hi h.p6, p7 := rp hi h.p7, p8 := rp hi h.p8, p9 := rp hi h.p9 }⟩
            · have hi : 3 < d.size := by omega
              have q8 := h.k8
              have hnd' := not_dn hi hnd
              refine wpOp_plain rfl rfl ?_
              go_simp
              exact ⟨_, rfl, { bel := h.bel, siz := (by simpa using h.siz), kp := rk h.kp, k6 := rs h.k6, k8 := rs h.k8, k9 := rs h.k9, oth := fun hk => h.oth (fun q => hk (dn_up q)), sl := fun hj hk => by obtain ⟨g, e1, e2⟩ := h.sl (dn_of hi hj (by decide)) (fun q => hk (dn_up q)); exact ⟨g, (set_other (by decide)).trans e1, e2⟩, res := fun hj => absurd (h.l11_3 (dn_of hi hj (by decide))) hnd', l2_1 := fun hj => dn_up (h.l2_1 (dn_of hi hj (by decide))), l4_3 := fun hj => dn_up (h.l4_3 (dn_of hi hj (by decide))), l5_4 := fun hj => dn_up (h.l5_4 (dn_of hi hj (by decide))), l8_7 := fun hj => dn_up (h.l8_7 (dn_of hi hj (by decide))), l9_8 := fun hj => dn_up (h.l9_8 (dn_of hi hj (by decide))), l10_2 := fun hj => dn_up (h.l10_2 (dn_of hi hj (by decide))), l10_5 := fun hj => dn_up (h.l10_5 (dn_of hi hj (by decide))), l10_6 := fun hj => dn_up (h.l10_6 (dn_of hi hj (by decide))), l10_9 := fun hj => dn_up (h.l10_9 (dn_of hi hj (by decide))), l11_0 := fun hj => dn_up (h.l11_0 (dn_of hi hj (by decide))), l11_1 := fun hj => dn_up (h.l11_1 (dn_of hi hj (by decide))), l11_2 := fun hj => dn_up (h.l11_2 (dn_of hi hj (by decide))), l11_3 := fun hj => dn_up (h.l11_3 (dn_of hi hj (by decide))), l11_4 := fun hj => dn_up (h.l11_4 (dn_of hi hj (by decide))), l11_5 := fun hj => dn_up (h.l11_5 (dn_of hi hj (by decide))), l11_6 := fun hj => dn_up (h.l11_6 (dn_of hi hj (by decide))), l11_7 := fun hj => dn_up (h.l11_7 (dn_of hi hj (by decide))), l11_8 := fun hj => dn_up (h.l11_8 (dn_of hi hj (by decide))), l11_9 := fun hj => dn_up (h.l11_9 (dn_of hi hj (by decide))), l11_10 := fun hj => dn_up (h.l11_10 (dn_of hi hj (by decide))), p0 := rp hi h.p0, p1 := rp hi h.p1, p2 := rp hi h.p2, p3 := fun _ => set_same (by have := h.siz; omega), p4 := rp hi h.p4, p5 := rp hi h.p5, p6 := rp hi h.p6, p7 := rp hi h.p7, p8 := rp hi h.p8, p9 := rp hi h.p9 }⟩
            · have hi : 4 < d.size := by omega
              have e3 := h.p3 (hpre _ rfl ⟨3, .data⟩ (by simp) rfl)
              have hnd' := not_dn hi hnd
              have h7 : ¬ dn d 11 := fun q => hnd' (h.l11_4 q)
              obtain ⟨m0, m1, m2, m3⟩ := four_cells (((h.oth h7).block eb hE).trans HEN.out)
              refine wpOp_plain rfl rfl ?_
              go_simp
              exact ⟨_, rfl, { bel := h.bel, siz := (by simpa using h.siz), kp := rk h.kp, k6 := rs h.k6, k8 := rs h.k8, k9 := rs h.k9, oth := fun hk => h.oth (fun q => hk (dn_up q)), sl := fun hj hk => by obtain ⟨g, e1, e2⟩ := h.sl (dn_of hi hj (by decide)) (fun q => hk (dn_up q)); exact ⟨g, (set_other (by decide)).trans e1, e2⟩, res := fun hj => absurd (h.l11_4 (dn_of hi hj (by decide))) hnd', l2_1 := fun hj => dn_up (h.l2_1 (dn_of hi hj (by decide))), l4_3 := fun _ => dn_up (hpre _ rfl ⟨3, .data⟩ (by simp) rfl), l5_4 := fun hj => dn_up (h.l5_4 (dn_of hi hj (by decide))), l8_7 := fun hj => dn_up (h.l8_7 (dn_of hi hj (by decide))), l9_8 := fun hj => dn_up (h.l9_8 (dn_of hi hj (by decide))), l10_2 := fun hj => dn_up (h.l10_2 (dn_of hi hj (by decide))), l10_5 := fun hj => dn_up (h.l10_5 (dn_of hi hj (by decide))), l10_6 := fun hj => dn_up (h.l10_6 (dn_of hi hj (by decide))), l10_9 := fun hj => dn_up (h.l10_9 (dn_of hi hj (by decide))), l11_0 := fun hj => dn_up (h.l11_0 (dn_of hi hj (by decide))), l11_1 := fun hj => dn_up (h.l11_1 (dn_of hi hj (by decide))), l11_2 := fun hj => dn_up (h.l11_2 (dn_of hi hj (by decide))), l11_3 := fun hj => dn_up (h.l11_3 (dn_of hi hj (by decide))), l11_4 := fun hj => dn_up (h.l11_4 (dn_of hi hj (by decide))), l11_5 := fun hj => dn_up (h.l11_5 (dn_of hi hj (by decide))), l11_6 := fun hj => dn_up (h.l11_6 (dn_of hi hj (by decide))), l11_7 := fun hj => dn_up (h.l11_7 (dn_of hi hj (by decide))), l11_8 := fun hj => dn_up (h.l11_8 (dn_of hi hj (by decide))), l11_9 := fun hj => dn_up (h.l11_9 (dn_of hi hj (by decide))), l11_10 := fun hj => dn_up (h.l11_10 (dn_of hi hj (by decide))), p0 := rp hi h.p0, p1 := rp hi h.p1, p2 := rp hi h.p2, p3 := rp hi h.p3, p4 := fun _ => set_same (by have := h.siz; omega), p5 := rp hi h.p5, p6 := rp hi h.p6, p7 := rp hi h.p7, p8 := rp hi h.p8, p9 := rp hi h.p9 }⟩
            · have hi : 5 < d.size := by omega
              have hnd' := not_dn hi hnd
              have h7 : ¬ dn d 11 := fun q => hnd' (h.l11_5 q)
              have d4 : dn d 4 := hpre _ rfl ⟨4, .data⟩ (by simp) rfl
              have e4 := h.p4 d4
              refine wpOp_plain rfl rfl ?_
              go_simp
              refine ((HIT.out e.kind hkd) wc (HW0.out.trans ((h.oth h7).mono HW0.out.size))).mono ?_
              rintro e1 w1 ⟨rfl, hb⟩
              exact ⟨_, rfl, { bel := h.bel.trans (hb.mono (by have := (h.oth h7).size; omega)), siz := (by simpa using h.siz), kp := rk h.kp, k6 := rs h.k6, k8 := rs h.k8, k9 := rs h.k9, oth := fun hk => (h.oth (fun q => hk (dn_up q))).trans (hb.mono (h.oth (fun q => hk (dn_up q))).size), sl := fun hj hk => by obtain ⟨g, e1, e2⟩ := h.sl (dn_of hi hj (by decide)) (fun q => hk (dn_up q)); exact ⟨g, (set_other (by decide)).trans e1, (e2.below hb).more hb.size⟩, res := fun hj => absurd (h.l11_5 (dn_of hi hj (by decide))) hnd', l2_1 := fun hj => dn_up (h.l2_1 (dn_of hi hj (by decide))), l4_3 := fun hj => dn_up (h.l4_3 (dn_of hi hj (by decide))), l5_4 := fun _ => dn_up (hpre _ rfl ⟨4, .data⟩ (by simp) rfl), l8_7 := fun hj => dn_up (h.l8_7 (dn_of hi hj (by decide))), l9_8 := fun hj => dn_up (h.l9_8 (dn_of hi hj (by decide))), l10_2 := fun hj => dn_up (h.l10_2 (dn_of hi hj (by decide))), l10_5 := fun hj => dn_up (h.l10_5 (dn_of hi hj (by decide))), l10_6 := fun hj => dn_up (h.l10_6 (dn_of hi hj (by decide))), l10_9 := fun hj => dn_up (h.l10_9 (dn_of hi hj (by decide))), l11_0 := fun hj => dn_up (h.l11_0 (dn_of hi hj (by decide))), l11_1 := fun hj => dn_up (h.l11_1 (dn_of hi hj (by decide))), l11_2 := fun hj => dn_up (h.l11_2 (dn_of hi hj (by decide))), l11_3 := fun hj => dn_up (h.l11_3 (dn_of hi hj (by decide))), l11_4 := fun hj => dn_up (h.l11_4 (dn_of hi hj (by decide))), l11_5 := fun hj => dn_up (h.l11_5 (dn_of hi hj (by decide))), l11_6 := fun hj => dn_up (h.l11_6 (dn_of hi hj (by decide))), l11_7 := fun hj => dn_up (h.l11_7 (dn_of hi hj (by decide))), l11_8 := fun hj => dn_up (h.l11_8 (dn_of hi hj (by decide))), l11_9 := fun hj => dn_up (h.l11_9 (dn_of hi hj (by decide))), l11_10 := fun hj => dn_up (h.l11_10 (dn_of hi hj (by decide))), p0 := rp hi h.p0, p1 := rp hi h.p1, p2 := rp hi h.p2, p3 := rp hi h.p3, p4 := rp hi h.p4, p5 := fun _ => set_same (by have := h.siz; omega), p6 := rp hi h.p6, p7 := rp hi h.p7, p8 := rp hi h.p8, p9 := rp hi h.p9 }⟩
            · have hi : 6 < d.size := by omega
              have q9 := h.k9
              have hnd' := not_dn hi hnd
              refine wpOp_plain rfl rfl ?_
              go_simp
              exact ⟨_, rfl, { bel := h.bel, siz := (by simpa using h.siz), kp := rk h.kp, k6 := rs h.k6, k8 := rs h.k8, k9 := rs h.k9, oth := fun hk => h.oth (fun q => hk (dn_up q)), sl := fun hj hk => by obtain ⟨g, e1, e2⟩ := h.sl (dn_of hi hj (by decide)) (fun q => hk (dn_up q)); exact ⟨g, (set_other (by decide)).trans e1, e2⟩, res := fun hj => absurd (h.l11_6 (dn_of hi hj (by decide))) hnd', l2_1 := fun hj => dn_up (h.l2_1 (dn_of hi hj (by decide))), l4_3 := fun hj => dn_up (h.l4_3 (dn_of hi hj (by decide))), l5_4 := fun hj => dn_up (h.l5_4 (dn_of hi hj (by decide))), l8_7 := fun hj => dn_up (h.l8_7 (dn_of hi hj (by decide))), l9_8 := fun hj => dn_up (h.l9_8 (dn_of hi hj (by decide))), l10_2 := fun hj => dn_up (h.l10_2 (dn_of hi hj (by decide))), l10_5 := fun hj => dn_up (h.l10_5 (dn_of hi hj (by decide))), l10_6 := fun hj => dn_up (h.l10_6 (dn_of hi hj (by decide))), l10_9 := fun hj => dn_up (h.l10_9 (dn_of hi hj (by decide))), l11_0 := fun hj => dn_up (h.l11_0 (dn_of hi hj (by decide))), l11_1 := fun hj => dn_up (h.l11_1 (dn_of hi hj (by decide))), l11_2 := fun hj => dn_up (h.l11_2 (dn_of hi hj (by decide))), l11_3 := fun hj => dn_up (h.l11_3 (dn_of hi hj (by decide))), l11_4 := fun hj => dn_up (h.l11_4 (dn_of hi hj (by decide))), l11_5 := fun hj => dn_up (h.l11_5 (dn_of hi hj (by decide))), l11_6 := fun hj => dn_up (h.l11_6 (dn_of hi hj (by decide))), l11_7 := fun hj => dn_up (h.l11_7 (dn_of hi hj (by decide))), l11_8 := fun hj => dn_up (h.l11_8 (dn_of hi hj (by decide))), l11_9 := fun hj => dn_up (h.l11_9 (dn_of hi hj (by decide))), l11_10 := fun hj => dn_up (h.l11_10 (dn_of hi hj (by decide))), p0 := rp hi h.p0, p1 := rp hi h.p1, p2 := rp hi h.p2, p3 := rp hi h.p3, p4 := rp hi h.p4, p5 := rp hi h.p5, p6 := fun _ => set_same (by have := h.siz; omega), p7 := rp hi h.p7, p8 := rp hi h.p8, p9 := rp hi h.p9 }⟩
            · have hi : 7 < d.size := by omega
              have q8 := h.k8
              have hnd' := not_dn hi hnd
              refine wpOp_plain rfl rfl ?_
              go_simp
              exact ⟨_, rfl, { bel := h.bel, siz := (by simpa using h.siz), kp := rk h.kp, k6 := rs h.k6, k8 := rs h.k8, k9 := rs h.k9, oth := fun hk => h.oth (fun q => hk (dn_up q)), sl := fun hj hk => by obtain ⟨g, e1, e2⟩ := h.sl (dn_of hi hj (by decide)) (fun q => hk (dn_up q)); exact ⟨g, (set_other (by decide)).trans e1, e2⟩, res := fun hj => absurd (h.l11_7 (dn_of hi hj (by decide))) hnd', l2_1 := fun hj => dn_up (h.l2_1 (dn_of hi hj (by decide))), l4_3 := fun hj => dn_up (h.l4_3 (dn_of hi hj (by decide))), l5_4 := fun hj => dn_up (h.l5_4 (dn_of hi hj (by decide))), l8_7 := fun hj => dn_up (h.l8_7 (dn_of hi hj (by decide))), l9_8 := fun hj => dn_up (h.l9_8 (dn_of hi hj (by decide))), l10_2 := fun hj => dn_up (h.l10_2 (dn_of hi hj (by decide))), l10_5 := fun hj => dn_up (h.l10_5 (dn_of hi hj (by decide))), l10_6 := fun hj => dn_up (h.l10_6 (dn_of hi hj (by decide))), l10_9 := fun hj => dn_up (h.l10_9 (dn_of hi hj (by decide))), l11_0 := fun hj => dn_up (h.l11_0 (dn_of hi hj (by decide))), l11_1 := fun hj => dn_up (h.l11_1 (dn_of hi hj (by decide))), l11_2 := fun hj => dn_up (h.l11_2 (dn_of hi hj (by decide))), l11_3 := fun hj => dn_up (h.l11_3 (dn_of hi hj (by decide))), l11_4 := fun hj => dn_up (h.l11_4 (dn_of hi hj (by decide))), l11_5 := fun hj => dn_up (h.l11_5 (dn_of hi hj (by decide))), l11_6 := fun hj => dn_up (h.l11_6 (dn_of hi hj (by decide))), l11_7 := fun hj => dn_up (h.l11_7 (dn_of hi hj (by decide))), l11_8 := fun hj => dn_up (h.l11_8 (dn_of hi hj (by decide))), l11_9 := fun hj => dn_up (h.l11_9 (dn_of hi hj (by decide))), l11_10 := fun hj => dn_up (h.l11_10 (dn_of hi hj (by decide))), p0 := rp hi h.p0, p1 := rp hi h.p1, p2 := rp hi h.p2, p3 := rp hi h.p3, p4 := rp hi h.p4, p5 := rp hi h.p5, p6 := rp hi h.p6, p7 := fun _ => set_same (by have := h.siz; omega), p8 := rp hi h.p8, p9 := rp hi h.p9 }⟩
            · have hi : 8 < d.size := by omega
              have e7 := h.p7 (hpre _ rfl ⟨7, .data⟩ (by simp) rfl)
              have hnd' := not_dn hi hnd
              have h7 : ¬ dn d 11 := fun q => hnd' (h.l11_8 q)
              obtain ⟨m0, m1, m2, m3⟩ := four_cells (((h.oth h7).block eb hE).trans HEN.out)
              refine wpOp_plain rfl rfl ?_
              go_simp
              exact ⟨_, rfl, { bel := h.bel, siz := (by simpa using h.siz), kp := rk h.kp, k6 := rs h.k6, k8 := rs h.k8, k9 := rs h.k9, oth := fun hk => h.oth (fun q => hk (dn_up q)), sl := fun hj hk => by obtain ⟨g, e1, e2⟩ := h.sl (dn_of hi hj (by decide)) (fun q => hk (dn_up q)); exact ⟨g, (set_other (by decide)).trans e1, e2⟩, res := fun hj => absurd (h.l11_8 (dn_of hi hj (by decide))) hnd', l2_1 := fun hj => dn_up (h.l2_1 (dn_of hi hj (by decide))), l4_3 := fun hj => dn_up (h.l4_3 (dn_of hi hj (by decide))), l5_4 := fun hj => dn_up (h.l5_4 (dn_of hi hj (by decide))), l8_7 := fun _ => dn_up (hpre _ rfl ⟨7, .data⟩ (by simp) rfl), l9_8 := fun hj => dn_up (h.l9_8 (dn_of hi hj (by decide))), l10_2 := fun hj => dn_up (h.l10_2 (dn_of hi hj (by decide))), l10_5 := fun hj => dn_up (h.l10_5 (dn_of hi hj (by decide))), l10_6 := fun hj => dn_up (h.l10_6 (dn_of hi hj (by decide))), l10_9 := fun hj => dn_up (h.l10_9 (dn_of hi hj (by decide))), l11_0 := fun hj => dn_up (h.l11_0 (dn_of hi hj (by decide))), l11_1 := fun hj => dn_up (h.l11_1 (dn_of hi hj (by decide))), l11_2 := fun hj => dn_up (h.l11_2 (dn_of hi hj (by decide))), l11_3 := fun hj => dn_up (h.l11_3 (dn_of hi hj (by decide))), l11_4 := fun hj => dn_up (h.l11_4 (dn_of hi hj (by decide))), l11_5 := fun hj => dn_up (h.l11_5 (dn_of hi hj (by decide))), l11_6 := fun hj => dn_up (h.l11_6 (dn_of hi hj (by decide))), l11_7 := fun hj => dn_up (h.l11_7 (dn_of hi hj (by decide))), l11_8 := fun hj => dn_up (h.l11_8 (dn_of hi hj (by decide))), l11_9 := fun hj => dn_up (h.l11_9 (dn_of hi hj (by decide))), l11_10 := fun hj => dn_up (h.l11_10 (dn_of hi hj (by decide))), p0 := rp hi h.p0, p1 := rp hi h.p1, p2 := rp hi h.p2, p3 := rp hi h.p3, p4 := rp hi h.p4, p5 := rp hi h.p5, p6 := rp hi h.p6, p7 := rp hi h.p7, p8 := fun _ => set_same (by have := h.siz; omega), p9 := rp hi h.p9 }⟩
            · have hi : 9 < d.size := by omega
              have hnd' := not_dn hi hnd
              have h7 : ¬ dn d 11 := fun q => hnd' (h.l11_9 q)
              have d8 : dn d 8 := hpre _ rfl ⟨8, .data⟩ (by simp) rfl
              have e8 := h.p8 d8
              refine wpOp_plain rfl rfl ?_
              go_simp
              refine ((HIT.out e.weight hwt) wc (HW0.out.trans ((h.oth h7).mono HW0.out.size))).mono ?_
              rintro e1 w1 ⟨rfl, hb⟩
              exact ⟨_, rfl, { bel := h.bel.trans (hb.mono (by have := (h.oth h7).size; omega)), siz := (by simpa using h.siz), kp := rk h.kp, k6 := rs h.k6, k8 := rs h.k8, k9 := rs h.k9, oth := fun hk => (h.oth (fun q => hk (dn_up q))).trans (hb.mono (h.oth (fun q => hk (dn_up q))).size), sl := fun hj hk => by obtain ⟨g, e1, e2⟩ := h.sl (dn_of hi hj (by decide)) (fun q => hk (dn_up q)); exact ⟨g, (set_other (by decide)).trans e1, (e2.below hb).more hb.size⟩, res := fun hj => absurd (h.l11_9 (dn_of hi hj (by decide))) hnd', l2_1 := fun hj => dn_up (h.l2_1 (dn_of hi hj (by decide))), l4_3 := fun hj => dn_up (h.l4_3 (dn_of hi hj (by decide))), l5_4 := fun hj => dn_up (h.l5_4 (dn_of hi hj (by decide))), l8_7 := fun hj => dn_up (h.l8_7 (dn_of hi hj (by decide))), l9_8 := fun _ => dn_up (hpre _ rfl ⟨8, .data⟩ (by simp) rfl), l10_2 := fun hj => dn_up (h.l10_2 (dn_of hi hj (by decide))), l10_5 := fun hj => dn_up (h.l10_5 (dn_of hi hj (by decide))), l10_6 := fun hj => dn_up (h.l10_6 (dn_of hi hj (by decide))), l10_9 := fun hj => dn_up (h.l10_9 (dn_of hi hj (by decide))), l11_0 := fun hj => dn_up (h.l11_0 (dn_of hi hj (by decide))), l11_1 := fun hj => dn_up (h.l11_1 (dn_of hi hj (by decide))), l11_2 := fun hj => dn_up (h.l11_2 (dn_of hi hj (by decide))), l11_3 := fun hj => dn_up (h.l11_3 (dn_of hi hj (by decide))), l11_4 := fun hj => dn_up (h.l11_4 (dn_of hi hj (by decide))), l11_5 := fun hj => dn_up (h.l11_5 (dn_of hi hj (by decide))), l11_6 := fun hj => dn_up (h.l11_6 (dn_of hi hj (by decide))), l11_7 := fun hj => dn_up (h.l11_7 (dn_of hi hj (by decide))), l11_8 := fun hj => dn_up (h.l11_8 (dn_of hi hj (by decide))), l11_9 := fun hj => dn_up (h.l11_9 (dn_of hi hj (by decide))), l11_10 := fun hj => dn_up (h.l11_10 (dn_of hi hj (by decide))), p0 := rp hi h.p0, p1 := rp hi h.p1, p2 := rp hi h.p2, p3 := rp hi h.p3, p4 := rp hi h.p4, p5 := rp hi h.p5, p6 := rp hi h.p6, p7 := rp hi h.p7, p8 := rp hi h.p8, p9 := fun _ => set_same (by have := h.siz; omega) }⟩
            · have hi : 10 < d.size := by omega
              have hnd' := not_dn hi hnd
              have h7 : ¬ dn d 11 := fun q => hnd' (h.l11_10 q)
              have d2 : dn d 2 := hpre _ rfl ⟨2, .data⟩ (by simp) rfl
              have d5 : dn d 5 := hpre _ rfl ⟨5, .data⟩ (by simp) rfl
              have d6 : dn d 6 := hpre _ rfl ⟨6, .data⟩ (by simp) rfl
              have d9 : dn d 9 := hpre _ rfl ⟨9, .data⟩ (by simp) rfl
              have e2 := h.p2 d2
              have e5 := h.p5 d5
              have e6 := h.p6 d6
              have e9 := h.p9 d9
              have hb : Below wc.heap.size wc (wc.alloc (.cells #[.string (⟨#[119, 111, 114, 100]⟩ : ByteArray), .string e.root, .string (⟨(Lib.itoa e.kind).toArray⟩ : ByteArray), .string (⟨#[45]⟩ : ByteArray), .string (⟨(Lib.itoa e.weight).toArray⟩ : ByteArray)] 9)) := (Below.refl _ _).alloc (Nat.le_refl _) _
              refine wpOp_plain rfl rfl ?_
              go_simp
              exact ⟨_, rfl, { bel := h.bel.trans (hb.mono (by have := (h.oth h7).size; omega)), siz := (by simpa using h.siz), kp := rk h.kp, k6 := rs h.k6, k8 := rs h.k8, k9 := rs h.k9, oth := fun hk => (h.oth (fun q => hk (dn_up q))).trans (hb.mono (h.oth (fun q => hk (dn_up q))).size), sl := fun _ _ => ⟨wc.heap.size, set_same (by have := h.siz; omega), rds_block (xs := [(⟨#[119, 111, 114, 100]⟩ : ByteArray), e.root, (⟨(Lib.itoa e.kind).toArray⟩ : ByteArray), (⟨#[45]⟩ : ByteArray), (⟨(Lib.itoa e.weight).toArray⟩ : ByteArray)]) len_str (heap_alloc_new _ _) rfl (by simp) (Nat.le_refl 5) (by decide)⟩, res := fun hj => absurd (h.l11_10 (dn_of hi hj (by decide))) hnd', l2_1 := fun hj => dn_up (h.l2_1 (dn_of hi hj (by decide))), l4_3 := fun hj => dn_up (h.l4_3 (dn_of hi hj (by decide))), l5_4 := fun hj => dn_up (h.l5_4 (dn_of hi hj (by decide))), l8_7 := fun hj => dn_up (h.l8_7 (dn_of hi hj (by decide))), l9_8 := fun hj => dn_up (h.l9_8 (dn_of hi hj (by decide))), l10_2 := fun _ => dn_up (hpre _ rfl ⟨2, .data⟩ (by simp) rfl), l10_5 := fun _ => dn_up (hpre _ rfl ⟨5, .data⟩ (by simp) rfl), l10_6 := fun _ => dn_up (hpre _ rfl ⟨6, .data⟩ (by simp) rfl), l10_9 := fun _ => dn_up (hpre _ rfl ⟨9, .data⟩ (by simp) rfl), l11_0 := fun hj => dn_up (h.l11_0 (dn_of hi hj (by decide))), l11_1 := fun hj => dn_up (h.l11_1 (dn_of hi hj (by decide))), l11_2 := fun hj => dn_up (h.l11_2 (dn_of hi hj (by decide))), l11_3 := fun hj => dn_up (h.l11_3 (dn_of hi hj (by decide))), l11_4 := fun hj => dn_up (h.l11_4 (dn_of hi hj (by decide))), l11_5 := fun hj => dn_up (h.l11_5 (dn_of hi hj (by decide))), l11_6 := fun hj => dn_up (h.l11_6 (dn_of hi hj (by decide))), l11_7 := fun hj => dn_up (h.l11_7 (dn_of hi hj (by decide))), l11_8 := fun hj => dn_up (h.l11_8 (dn_of hi hj (by decide))), l11_9 := fun hj => dn_up (h.l11_9 (dn_of hi hj (by decide))), l11_10 := fun hj => dn_up (h.l11_10 (dn_of hi hj (by decide))), p0 := rp hi h.p0, p1 := rp hi h.p1, p2 := rp hi h.p2, p3 := rp hi h.p3, p4 := rp hi h.p4, p5 := rp hi h.p5, p6 := rp hi h.p6, p7 := rp hi h.p7, p8 := rp hi h.p8, p9 := rp hi h.p9 }⟩
            · have hi : 11 < d.size := by omega
              have hnd' := not_dn hi hnd
              have d0 : dn d 0 := hpre _ rfl ⟨0, .data⟩ (by simp) rfl
              have d10 : dn d 10 := hpre _ rfl ⟨10, .data⟩ (by simp) rfl
              have d2 : dn d 2 := h.l10_2 d10
              have d5 : dn d 5 := h.l10_5 d10
              have d6 : dn d 6 := h.l10_6 d10
              have d9 : dn d 9 := h.l10_9 d10
              have d1 : dn d 1 := h.l2_1 d2
              have d4 : dn d 4 := h.l5_4 d5
              have d8 : dn d 8 := h.l9_8 d9
              have d3 : dn d 3 := h.l4_3 d4
              have d7 : dn d 7 := h.l8_7 d8
              have e0 := h.p0 d0
              obtain ⟨g, e10, r10⟩ := h.sl d10 hnd'
              have hot := h.oth hnd'
              have hos := hot.size
              refine wpOp_plain rfl rfl ?_
              go_simp
              refine (Format1_any bb l _ [(⟨#[119, 111, 114, 100]⟩ : ByteArray), e.root, (⟨(Lib.itoa e.kind).toArray⟩ : ByteArray), (⟨#[45]⟩ : ByteArray), (⟨(Lib.itoa e.weight).toArray⟩ : ByteArray)] wc (isBuilder_below HIB.out hot) (by omega) r10 (by show 0 < 5; omega) (by show 5 ≤ 10; omega) HLZ.out HLL.out).mono ?_
              rintro e1 w1 ⟨rfl, hib, hb⟩
              exact ⟨_, rfl, { bel := (hot.mono (by omega)).trans hb, siz := (by simpa using h.siz), kp := rk h.kp, k6 := rs h.k6, k8 := rs h.k8, k9 := rs h.k9, oth := fun hk => absurd (dn_self hi) hk, sl := fun _ hk => absurd (dn_self hi) hk, res := fun _ => hib, l2_1 := fun hj => dn_up (h.l2_1 (dn_of hi hj (by decide))), l4_3 := fun hj => dn_up (h.l4_3 (dn_of hi hj (by decide))), l5_4 := fun hj => dn_up (h.l5_4 (dn_of hi hj (by decide))), l8_7 := fun hj => dn_up (h.l8_7 (dn_of hi hj (by decide))), l9_8 := fun hj => dn_up (h.l9_8 (dn_of hi hj (by decide))), l10_2 := fun hj => dn_up (h.l10_2 (dn_of hi hj (by decide))), l10_5 := fun hj => dn_up (h.l10_5 (dn_of hi hj (by decide))), l10_6 := fun hj => dn_up (h.l10_6 (dn_of hi hj (by decide))), l10_9 := fun hj => dn_up (h.l10_9 (dn_of hi hj (by decide))), l11_0 := fun _ => dn_up d0, l11_1 := fun _ => dn_up d1, l11_2 := fun _ => dn_up d2, l11_3 := fun _ => dn_up d3, l11_4 := fun _ => dn_up d4, l11_5 := fun _ => dn_up d5, l11_6 := fun _ => dn_up d6, l11_7 := fun _ => dn_up d7, l11_8 := fun _ => dn_up d8, l11_9 := fun _ => dn_up d9, l11_10 := fun _ => dn_up d10, p0 := rp hi h.p0, p1 := rp hi h.p1, p2 := rp hi h.p2, p3 := rp hi h.p3, p4 := rp hi h.p4, p5 := rp hi h.p5, p6 := rp hi h.p6, p7 := rp hi h.p7, p8 := rp hi h.p8, p9 := rp hi h.p9 }⟩
          case gendw =>
            intro d a wc hd hI hall
            obtain ⟨t, rfl, h⟩ := hI
            have hdn : ∀ j, j < 12 → dn d j := fun j hj => dn_all hd hall hj
            have hd : ∀ j, (_ : j < 12 := by decide) → dn d j := fun j hj => hdn j hj
            obtain ⟨t41, x41⟩ : ∃ v, t[41]? = some v := ⟨_, Array.getElem?_eq_getElem (by have := h.siz; omega)⟩
            obtain ⟨t42, x42⟩ : ∃ v, t[42]? = some v := ⟨_, Array.getElem?_eq_getElem (by have := h.siz; omega)⟩
            have hfe := frame_eq [(31, _), (32, _), (33, _), (34, _), (35, _), (36, _), (37, _), (38, _), (39, _), (40, _), (41, _), (42, _)] (h.siz.trans rfl) h.kp rfl ⟨h.p0 (hd 0), h.p1 (hd 1), h.p2 (hd 2), h.p3 (hd 3), h.p4 (hd 4), h.p5 (hd 5), h.p6 (hd 6), h.p7 (hd 7), h.p8 (hd 8), h.p9 (hd 9), x41, x42, trivial⟩
            simp only [List.foldl_cons, List.foldl_nil, List.setIfInBounds_toArray, List.set_cons_succ, List.set_cons_zero] at hfe
            have hbc := h.bel
            subst hfe
            have hres := h.res (hd 11)
            clear h hdn hall hd
            have hbc' := hbc
            have hres' := hres
            clear hbc hres
            rw [← HWS.out] at hres'
            have HRES := Lib.hid hres'
            have HBC := Lib.hid (HBR0.out.trans hbc')
            clear hres' hbc'
            go_wp2_with fail
            go_roundg (x.entries.length - (k + 1))
            case measure => omega
            case rel => exact ⟨k + 1, by omega, rfl, by go_num, by rw [Lx.flat_take HK.out, ← HLN.out]; exact HRES.out, HBC.out⟩
      · have hke : k = x.entries.length := by omega
        have hnI : ¬ (k : Int) < (x.entries.length : Int) := by omega
        have HALL : Hid (Lib.IsBuilder 95 5 bb bb (Lib.byteCells (x.entries.flatMap fun e => Lx.lineL (Lx.wordL e))) wr) := Lib.hid (by have q := HIBR.out; rw [List.take_of_length_le (by omega)] at q; exact q)
        obtain ⟨P1, hP⟩ : ∃ P, P = (x.entries.flatMap fun e => Lx.lineL (Lx.wordL e)) := ⟨_, rfl⟩
        rw [← hP] at HALL
        have HP1 := Lib.hid hP
        have HPL1 : Hid (P1.length ≤ 24000) := Lib.hid (by rw [hP]; have h1 := Lx.flat_len (f := fun e => Lx.lineL (Lx.wordL e)) (l := x.entries) (fun a ha => Lx.word_len (Lx.Entry.fine (HF.out.e0 a ha))); omega)
        obtain ⟨p0, p1, p2⟩ := lex_cells ((HBR.out.block w.heap.size hwb).trans HX2.out)
        clear hP
        go_wp2_with fail
        go_loopg [47] x.endings.length (fun g i wr => ∃ k : Nat, k ≤ x.endings.length ∧ g = x.endings.length - k ∧ i = .int .i64 k ∧ Lib.IsBuilder 95 5 bb bb (Lib.byteCells (P1 ++ (x.endings.take k).flatMap fun e => Lx.lineL (Lx.endingL e))) wr ∧ Below bb w2 wr)
        case atStart => exact ⟨0, Nat.zero_le _, rfl, rfl, by simpa using HALL.out, HBR.out⟩
        case round =>
          obtain ⟨k, hk, rfl, rfl, hib, hbr⟩ := hrel
          have HIBR := Lib.hid hib
          have HBR := Lib.hid hbr
          have hsr : w2.heap.size ≤ wr.heap.size := hbr.size
          have HWR : Hid (Below w.heap.size w wr) := Lib.hid (HB2.out.trans (hbr.mono (Nat.le_of_lt hwb)))
          clear hib hbr
          by_cases hlt : k < x.endings.length
          · obtain ⟨b, off, rfl, hb, hcell⟩ := HR1.out.ex0 (by omega)
            obtain ⟨e, he⟩ : ∃ e, e = x.endings[k] := ⟨_, rfl⟩
            have hk1 : x.endings[k]? = some e := by rw [he]; exact List.getElem?_eq_getElem hlt
            have HK := Lib.hid hk1
            have HE := Lib.hid (Lx.Ending.fine (HF.out.e1 e (List.mem_of_getElem? hk1)))
            have fg0 := (HWR.out.cell (p := ⟨b, off + k * 4, none⟩) hb).trans (by simpa using hcell k e hk1 0 _ rfl : w.cell? ⟨b, off + k * 4, none⟩ = some (.int .i64 e.kind))
            have fg1 := (HWR.out.cell (p := ⟨b, off + k * 4 + 1, none⟩) hb).trans (hcell k e hk1 1 _ rfl)
            have fg2 := (HWR.out.cell (p := ⟨b, off + k * 4 + 2, none⟩) hb).trans (hcell k e hk1 2 _ rfl)
            have fg3 := (HWR.out.cell (p := ⟨b, off + k * 4 + 3, none⟩) hb).trans (hcell k e hk1 3 _ rfl)
            clear he hk1 hcell
            go_upto_region 17 with fail
            obtain ⟨W0, hW0⟩ : ∃ W, W = wr.alloc (.cells #[.int .i64 e.kind, .string e.text, .string e.name, .int .i64 e.weight] 55) := ⟨_, rfl⟩
            obtain ⟨eb, heb⟩ : ∃ e, e = wr.heap.size := ⟨_, rfl⟩
            have HBW : Hid (Below wr.heap.size wr W0) := Lib.hid (by rw [hW0]; exact (Below.refl _ _).alloc (Nat.le_refl _) _)
            have HEN : Hid (W0.heap[eb]? = some (.cells #[.int .i64 e.kind, .string e.text, .string e.name, .int .i64 e.weight] 55 (0, 0))) := Lib.hid (by rw [hW0, heb]; exact heap_alloc_new _ _)
            have hE : eb < W0.heap.size := by rw [hW0, heb]; simp
            have hbW0 : bb < W0.heap.size := by have := HBW.out.size; omega
            have HIB := Lib.hid (isBuilder_below HIBR.out HBW.out)
            have HW0 := Lib.hid (HWR.out.trans (HBW.out.mono HWR.out.size))
            have HBR0 : Hid (Below bb w2 W0) := Lib.hid (HBR.out.trans (HBW.out.mono (by omega)))
            rw [← hW0, ← heb]
            obtain ⟨l, hl⟩ : ∃ l, l = (P1 ++ (x.endings.take k).flatMap fun e => Lx.lineL (Lx.endingL e)) := ⟨_, rfl⟩
            rw [← hl] at HIB
            have HLN := Lib.hid hl
            have HLL : Hid (l.length ≤ 1000000) := Lib.hid (by rw [hl]; rw [List.length_append]; have h3 := HPL1.out; have h1 := Lx.flat_take_len (f := fun e => Lx.lineL (Lx.endingL e)) (l := x.endings) k (fun a ha => Lx.ending_len (Lx.Ending.fine (HF.out.e1 a ha))); omega)
            have hkd : 0 ≤ e.kind ∧ e.kind ≤ 1000 := ⟨by have := HE.out.k; omega, by have := HE.out.k; omega⟩
            have hwt : 0 ≤ e.weight ∧ e.weight ≤ 1000 := HE.out.w
            clear hl hW0 heb fg0 fg1 fg2 fg3
            have HWS : Hid (Lx.lineL (Lx.endingL e) = Lx.lineL ([(⟨#[101, 110, 100, 105, 110, 103]⟩ : ByteArray), (⟨(Lib.itoa e.kind).toArray⟩ : ByteArray), e.text, e.name, (⟨(Lib.itoa e.weight).toArray⟩ : ByteArray)].map (·.data.toList))) := Lib.hid (by unfold _root_.Lx.endingL; rfl)
            have HLZ : Hid ((Lx.lineL ([(⟨#[101, 110, 100, 105, 110, 103]⟩ : ByteArray), (⟨(Lib.itoa e.kind).toArray⟩ : ByteArray), e.text, e.name, (⟨(Lib.itoa e.weight).toArray⟩ : ByteArray)].map (·.data.toList))).length ≤ 100000) := Lib.hid (by rw [← HWS.out]; have := Lx.ending_len HE.out; omega)
            go_upto_region 17 with fail
            refine wp_region_inv2T (fun T0 => FeI T0 W0 bb eb l e.kind e.text e.name e.weight) (by kernel_rfl) (by kernel_rfl) ?g0e ?gstepe ?gende
            case g0e =>
              have hno : ∀ j, ¬ dn (Array.replicate 13 false) j := by
                intro j; unfold dn; by_cases hj : j < 13 <;> simp [Array.getD, hj]
              have na : ∀ {j : Nat} {Z : Prop}, dn (Array.replicate 13 false) j → Z := fun hj => absurd hj (hno _)
              exact ⟨_, rfl, { bel := (Below.refl _ _).drew, siz := rfl, kp := fun _ _ => rfl, k6 := rfl, k11 := rfl, p0 := na, p1 := na, p2 := na, p3 := na, p4 := na, p5 := na, p6 := na, p7 := na, p8 := na, p9 := na, p10 := na, oth := fun _ => (Below.refl _ _).drew, sl := fun hj => absurd hj (hno _), res := fun hj => absurd hj (hno _), l2_1 := fun hj => absurd hj (hno _), l3_2 := fun hj => absurd hj (hno _), l5_4 := fun hj => absurd hj (hno _), l7_6 := fun hj => absurd hj (hno _), l9_8 := fun hj => absurd hj (hno _), l10_9 := fun hj => absurd hj (hno _), l11_3 := fun hj => absurd hj (hno _), l11_5 := fun hj => absurd hj (hno _), l11_7 := fun hj => absurd hj (hno _), l11_10 := fun hj => absurd hj (hno _), l12_0 := fun hj => absurd hj (hno _), l12_1 := fun hj => absurd hj (hno _), l12_2 := fun hj => absurd hj (hno _), l12_3 := fun hj => absurd hj (hno _), l12_4 := fun hj => absurd hj (hno _), l12_5 := fun hj => absurd hj (hno _), l12_6 := fun hj => absurd hj (hno _), l12_7 := fun hj => absurd hj (hno _), l12_8 := fun hj => absurd hj (hno _), l12_9 := fun hj => absurd hj (hno _), l12_10 := fun hj => absurd hj (hno _), l12_11 := fun hj => absurd hj (hno _) }⟩
            case gstepe =>
              intro T0 d a wc i hd hI hi
              obtain ⟨hlt, hnd, hpre⟩ := mem_ready hi
              have hd' : d.size = 13 := hd
              have hin : i < 13 := hlt
              clear hi hd hlt
              obtain ⟨t, rfl, h⟩ := hI
              have hcs : i = 0 ∨ i = 1 ∨ i = 2 ∨ i = 3 ∨ i = 4 ∨ i = 5 ∨ i = 6 ∨ i = 7 ∨ i = 8 ∨ i = 9 ∨ i = 10 ∨ i = 11 ∨ i = 12 := by omega
              rcases hcs with rfl | rfl | rfl | rfl | rfl | rfl | rfl | rfl | rfl | rfl | rfl | rfl | rfl
              · have hi : 0 < d.size := by omega
                have q6 := h.k6
                have hnd' := not_dn hi hnd
                refine wpOp_plain rfl rfl ?_
                go_simp
                exact ⟨_, rfl, { bel := h.bel, siz := (by simpa using h.siz), kp := rk h.kp, k6 := rs h.k6, k11 := rs h.k11, oth := fun hk => h.oth (fun q => hk (dn_up q)), sl := fun hj hk => by obtain ⟨g, e1, e2⟩ := h.sl (dn_of hi hj (by decide)) (fun q => hk (dn_up q)); exact ⟨g, (set_other (by decide)).trans e1, e2⟩, res := fun hj => absurd (h.l12_0 (dn_of hi hj (by decide))) hnd', l2_1 := fun hj => dn_up (h.l2_1 (dn_of hi hj (by decide))), l3_2 := fun hj => dn_up (h.l3_2 (dn_of hi hj (by decide))), l5_4 := fun hj => dn_up (h.l5_4 (dn_of hi hj (by decide))), l7_6 := fun hj => dn_up (h.l7_6 (dn_of hi hj (by decide))), l9_8 := fun hj => dn_up (h.l9_8 (dn_of hi hj (by decide))), l10_9 := fun hj => dn_up (h.l10_9 (dn_of hi hj (by decide))), l11_3 := fun hj => dn_up (h.l11_3 (dn_of hi hj (by decide))), l11_5 := fun hj => dn_up (h.l11_5 (dn_of hi hj (by decide))), l11_7 := fun hj => dn_up (h.l11_7 (dn_of hi hj (by decide))), l11_10 := fun hj => dn_up (h.l11_10 (dn_of hi hj (by decide))), l12_0 := fun hj => dn_up (h.l12_0 (dn_of hi hj (by decide))), l12_1 := fun hj => dn_up (h.l12_1 (dn_of hi hj (by decide))), l12_2 := fun hj => dn_up (h.l12_2 (dn_of hi hj (by decide))), l12_3 := fun hj => dn_up (h.l12_3 (dn_of hi hj (by decide))), l12_4 := fun hj => dn_up (h.l12_4 (dn_of hi hj (by decide))), l12_5 := fun hj => dn_up (h.l12_5 (dn_of hi hj (by decide))), l12_6 := fun hj => dn_up (h.l12_6 (dn_of hi hj (by decide))), l12_7 := fun hj => dn_up (h.l12_7 (dn_of hi hj (by decide))), l12_8 := fun hj => dn_up (h.l12_8 (dn_of hi hj (by decide))), l12_9 := fun hj => dn_up (h.l12_9 (dn_of hi hj (by decide))), l12_10 := fun hj => dn_up (h.l12_10 (dn_of hi hj (by decide))), l12_11 := fun hj => dn_up (h.l12_11 (dn_of hi hj (by decide))), p0 := fun _ => set_same (by have := h.siz; omega), p1 := rp hi h.p1, p2 := rp hi h.p2, p3 := rp hi h.p3, p4 := rp hi h.p4, p5 := rp hi h.p5, p6 := rp hi h.p6, p7 := rp hi h.p7, p8 := rp hi h.p8, p9 := rp hi h.p9, p10 := rp hi h.p10 }⟩
              · have hi : 1 < d.size := by omega
                have q11 := h.k11
                have hnd' := not_dn hi hnd
                refine wpOp_plain rfl rfl ?_
                go_simp
                exact ⟨_, rfl, { bel := h.bel, siz := (by simpa using h.siz), kp := rk h.kp, k6 := rs h.k6, k11 := rs h.k11, oth := fun hk => h.oth (fun q => hk (dn_up q)), sl := fun hj hk => by obtain ⟨g, e1, e2⟩ := h.sl (dn_of hi hj (by decide)) (fun q => hk (dn_up q)); exact ⟨g, (set_other (by decide)).trans e1, e2⟩, res := fun hj => absurd (h.l12_1 (dn_of hi hj (by decide))) hnd', l2_1 := fun hj => dn_up (h.l2_1 (dn_of hi hj (by decide))), l3_2 := fun hj => dn_up (h.l3_2 (dn_of hi hj (by decide))), l5_4 := fun hj => dn_up (h.l5_4 (dn_of hi hj (by decide))), l7_6 := fun hj => dn_up (h.l7_6 (dn_of hi hj (by decide))), l9_8 := fun hj => dn_up (h.l9_8 (dn_of hi hj (by decide))), l10_9 := fun hj => dn_up (h.l10_9 (dn_of hi hj (by decide))), l11_3 := fun hj => dn_up (h.l11_3 (dn_of hi hj (by decide))), l11_5 := fun hj => dn_up (h.l11_5 (dn_of hi hj (by decide))), l11_7 := fun hj => dn_up (h.l11_7 (dn_of hi hj (by decide))), l11_10 := fun hj => dn_up (h.l11_10 (dn_of hi hj (by decide))), l12_0 := fun hj => dn_up (h.l12_0 (dn_of hi hj (by decide))), l12_1 := fun hj => dn_up (h.l12_1 (dn_of hi hj (by decide))), l12_2 := fun hj => dn_up (h.l12_2 (dn_of hi hj (by decide))), l12_3 := fun hj => dn_up (h.l12_3 (dn_of hi hj (by decide))), l12_4 := fun hj => dn_up (h.l12_4 (dn_of hi hj (by decide))), l12_5 := fun hj => dn_up (h.l12_5 (dn_of hi hj (by decide))), l12_6 := fun hj => dn_up (h.l12_6 (dn_of hi hj (by decide))), l12_7 := fun hj => dn_up (h.l12_7 (dn_of hi hj (by decide))), l12_8 := fun hj => dn_up (h.l12_8 (dn_of hi hj (by decide))), l12_9 := fun hj => dn_up (h.l12_9 (dn_of hi hj (by decide))), l12_10 := fun hj => dn_up (h.l12_10 (dn_of hi hj (by decide))), l12_11 := fun hj => dn_up (h.l12_11 (dn_of hi hj (by decide))), p0 := rp hi h.p0, p1 := fun _ => set_same (by have := h.siz; omega), p2 := rp hi h.p2, p3 := rp hi h.p3, p4 := rp hi h.p4, p5 := rp hi h.p5, p6 := rp hi h.p6, p7 := rp hi h.p7, p8 := rp hi h.p8, p9 := rp hi h.p9, p10 := rp hi h.p10 }⟩
              · have hi : 2 < d.size := by omega
                have e1 := h.p1 (hpre _ rfl ⟨1, .data⟩ (by simp) rfl)
                have hnd' := not_dn hi hnd
                have h7 : ¬ dn d 12 := fun q => hnd' (h.l12_2 q)
                obtain ⟨m0, m1, m2, m3⟩ := four_cells (((h.oth h7).block eb hE).trans HEN.out)
                refine wpOp_plain rfl rfl ?_
                go_simp
                exact ⟨_, rfl, { bel := h.bel, siz := (by simpa using h.siz), kp := rk h.kp, k6 := rs h.k6, k11 := rs h.k11, oth := fun hk => h.oth (fun q => hk (dn_up q)), sl := fun hj hk => by obtain ⟨g, e1, e2⟩ := h.sl (dn_of hi hj (by decide)) (fun q => hk (dn_up q)); exact ⟨g, (set_other (by decide)).trans e1, e2⟩, res := fun hj => absurd (h.l12_2 (dn_of hi hj (by decide))) hnd', l2_1 := fun _ => dn_up (hpre _ rfl ⟨1, .data⟩ (by simp) rfl), l3_2 := fun hj => dn_up (h.l3_2 (dn_of hi hj (by decide))), l5_4 := fun hj => dn_up (h.l5_4 (dn_of hi hj (by decide))), l7_6 := fun hj => dn_up (h.l7_6 (dn_of hi hj (by decide))), l9_8 := fun hj => dn_up (h.l9_8 (dn_of hi hj (by decide))), l10_9 := fun hj => dn_up (h.l10_9 (dn_of hi hj (by decide))), l11_3 := fun hj => dn_up (h.l11_3 (dn_of hi hj (by decide))), l11_5 := fun hj => dn_up (h.l11_5 (dn_of hi hj (by decide))), l11_7 := fun hj => dn_up (h.l11_7 (dn_of hi hj (by decide))), l11_10 := fun hj => dn_up (h.l11_10 (dn_of hi hj (by decide))), l12_0 := fun hj => dn_up (h.l12_0 (dn_of hi hj (by decide))), l12_1 := fun hj => dn_up (h.l12_1 (dn_of hi hj (by decide))), l12_2 := fun hj => dn_up (h.l12_2 (dn_of hi hj (by decide))), l12_3 := fun hj => dn_up (h.l12_3 (dn_of hi hj (by decide))), l12_4 := fun hj => dn_up (h.l12_4 (dn_of hi hj (by decide))), l12_5 := fun hj => dn_up (h.l12_5 (dn_of hi hj (by decide))), l12_6 := fun hj => dn_up (h.l12_6 (dn_of hi hj (by decide))), l12_7 := fun hj => dn_up (h.l12_7 (dn_of hi hj (by decide))), l12_8 := fun hj => dn_up (h.l12_8 (dn_of hi hj (by decide))), l12_9 := fun hj => dn_up (h.l12_9 (dn_of hi hj (by decide))), l12_10 := fun hj => dn_up (h.l12_10 (dn_of hi hj (by decide))), l12_11 := fun hj => dn_up (h.l12_11 (dn_of hi hj (by decide))), p0 := rp hi h.p0, p1 := rp hi h.p1, p2 := fun _ => set_same (by have := h.siz; omega), p3 := rp hi h.p3, p4 := rp hi h.p4, p5 := rp hi h.p5, p6 := rp hi h.p6, p7 := rp hi h.p7, p8 := rp hi h.p8, p9 := rp hi h.p9, p10 := rp hi h.p10 }⟩
              · have hi : 3 < d.size := by omega
                have hnd' := not_dn hi hnd
                have h7 : ¬ dn d 12 := fun q => hnd' (h.l12_3 q)
                have d2 : dn d 2 := hpre _ rfl ⟨2, .data⟩ (by simp) rfl
                have e2 := h.p2 d2
                refine wpOp_plain rfl rfl ?_
                go_simp
                refine ((HIT.out e.kind hkd) wc (HW0.out.trans ((h.oth h7).mono HW0.out.size))).mono ?_
                rintro e1 w1 ⟨rfl, hb⟩
                exact ⟨_, rfl, { bel := h.bel.trans (hb.mono (by have := (h.oth h7).size; omega)), siz := (by simpa using h.siz), kp := rk h.kp, k6 := rs h.k6, k11 := rs h.k11, oth := fun hk => (h.oth (fun q => hk (dn_up q))).trans (hb.mono (h.oth (fun q => hk (dn_up q))).size), sl := fun hj hk => by obtain ⟨g, e1, e2⟩ := h.sl (dn_of hi hj (by decide)) (fun q => hk (dn_up q)); exact ⟨g, (set_other (by decide)).trans e1, (e2.below hb).more hb.size⟩, res := fun hj => absurd (h.l12_3 (dn_of hi hj (by decide))) hnd', l2_1 := fun hj => dn_up (h.l2_1 (dn_of hi hj (by decide))), l3_2 := fun _ => dn_up (hpre _ rfl ⟨2, .data⟩ (by simp) rfl), l5_4 := fun hj => dn_up (h.l5_4 (dn_of hi hj (by decide))), l7_6 := fun hj => dn_up (h.l7_6 (dn_of hi hj (by decide))), l9_8 := fun hj => dn_up (h.l9_8 (dn_of hi hj (by decide))), l10_9 := fun hj => dn_up (h.l10_9 (dn_of hi hj (by decide))), l11_3 := fun hj => dn_up (h.l11_3 (dn_of hi hj (by decide))), l11_5 := fun hj => dn_up (h.l11_5 (dn_of hi hj (by decide))), l11_7 := fun hj => dn_up (h.l11_7 (dn_of hi hj (by decide))), l11_10 := fun hj => dn_up (h.l11_10 (dn_of hi hj (by decide))), l12_0 := fun hj => dn_up (h.l12_0 (dn_of hi hj (by decide))), l12_1 := fun hj => dn_up (h.l12_1 (dn_of hi hj (by decide))), l12_2 := fun hj => dn_up (h.l12_2 (dn_of hi hj (by decide))), l12_3 := fun hj => dn_up (h.l12_3 (dn_of hi hj (by decide))), l12_4 := fun hj => dn_up (h.l12_4 (dn_of hi hj (by decide))), l12_5 := fun hj => dn_up (h.l12_5 (dn_of hi hj (by decide))), l12_6 := fun hj => dn_up (h.l12_6 (dn_of hi hj (by decide))), l12_7 := fun hj => dn_up (h.l12_7 (dn_of hi hj (by decide))), l12_8 := fun hj => dn_up (h.l12_8 (dn_of hi hj (by decide))), l12_9 := fun hj => dn_up (h.l12_9 (dn_of hi hj (by decide))), l12_10 := fun hj => dn_up (h.l12_10 (dn_of hi hj (by decide))), l12_11 := fun hj => dn_up (h.l12_11 (dn_of hi hj (by decide))), p0 := rp hi h.p0, p1 := rp hi h.p1, p2 := rp hi h.p2, p3 := fun _ => set_same (by have := h.siz; omega), p4 := rp hi h.p4, p5 := rp hi h.p5, p6 := rp hi h.p6, p7 := rp hi h.p7, p8 := rp hi h.p8, p9 := rp hi h.p9, p10 := rp hi h.p10 }⟩
              · have hi : 4 < d.size := by omega
                have q11 := h.k11
                have hnd' := not_dn hi hnd
                refine wpOp_plain rfl rfl ?_
                go_simp
                exact ⟨_, rfl, { bel := h.bel, siz := (by simpa using h.siz), kp := rk h.kp, k6 := rs h.k6, k11 := rs h.k11, oth := fun hk => h.oth (fun q => hk (dn_up q)), sl := fun hj hk => by obtain ⟨g, e1, e2⟩ := h.sl (dn_of hi hj (by decide)) (fun q => hk (dn_up q)); exact ⟨g, (set_other (by decide)).trans e1, e2⟩, res := fun hj => absurd (h.l12_4 (dn_of hi hj (by decide))) hnd', l2_1 := fun hj => dn_up (h.l2_1 (dn_of hi hj (by decide))), l3_2 := fun hj => dn_up (h.l3_2 (dn_of hi hj (by decide))), l5_4 := fun hj => dn_up (h.l5_4 (dn_of hi hj (by decide))), l7_6 := fun hj => dn_up (h.l7_6 (dn_of hi hj (by decide))), l9_8 := fun hj => dn_up (h.l9_8 (dn_of hi hj (by decide))), l10_9 := fun hj => dn_up (h.l10_9 (dn_of hi hj (by decide))), l11_3 := fun hj => dn_up (h.l11_3 (dn_of hi hj (by decide))), l11_5 := fun hj => dn_up (h.l11_5 (dn_of hi hj (by decide))), l11_7 := fun hj => dn_up (h.l11_7 (dn_of hi hj (by decide))), l11_10 := fun hj => dn_up (h.l11_10 (dn_of hi hj (by decide))), l12_0 := fun hj => dn_up (h.l12_0 (dn_of hi hj (by decide))), l12_1 := fun hj => dn_up (h.l12_1 (dn_of hi hj (by decide))), l12_2 := fun hj => dn_up (h.l12_2 (dn_of hi hj (by decide))), l12_3 := fun hj => dn_up (h.l12_3 (dn_of hi hj (by decide))), l12_4 := fun hj => dn_up (h.l12_4 (dn_of hi hj (by decide))), l12_5 := fun hj => dn_up (h.l12_5 (dn_of hi hj (by decide))), l12_6 := fun hj => dn_up (h.l12_6 (dn_of hi hj (by decide))), l12_7 := fun hj => dn_up (h.l12_7 (dn_of hi hj (by decide))), l12_8 := fun hj => dn_up (h.l12_8 (dn_of hi hj (by decide))), l12_9 := fun hj => dn_up (h.l12_9 (dn_of hi hj (by decide))), l12_10 := fun hj => dn_up (h.l12_10 (dn_of hi hj (by decide))), l12_11 := fun hj => dn_up (h.l12_11 (dn_of hi hj (by decide))), p0 := rp hi h.p0, p1 := rp hi h.p1, p2 := rp hi h.p2, p3 := rp hi h.p3, p4 := fun _ => set_same (by have := h.siz; omega), p5 := rp hi h.p5, p6 := rp hi h.p6, p7 := rp hi h.p7, p8 := rp hi h.p8, p9 := rp hi h.p9, p10 := rp hi h.p10 }⟩
              · have hi : 5 < d.size := by omega
                have e4 := h.p4 (hpre _ rfl ⟨4, .data⟩ (by simp) rfl)
                have hnd' := not_dn hi hnd
                have h7 : ¬ dn d 12 := fun q => hnd' (h.l12_5 q)
                obtain ⟨m0, m1, m2, m3⟩ := four_cells (((h.oth h7).block eb hE).trans HEN.out)
                refine wpOp_plain rfl rfl ?_
                go_simp
                exact ⟨_, rfl, { bel := h.bel, siz := (by simpa using h.siz), kp := rk h.kp, k6 := rs h.k6, k11 := rs h.k11, oth := fun hk => h.oth (fun q => hk (dn_up q)), sl := fun hj hk => by obtain ⟨g, e1, e2⟩ := h.sl (dn_of hi hj (by decide)) (fun q => hk (dn_up q)); exact ⟨g, (set_other (by decide)).trans e1, e2⟩, res := fun hj => absurd (h.l12_5 (dn_of hi hj (by decide))) hnd', l2_1 := fun hj => dn_up (h.l2_1 (dn_of hi hj (by decide))), l3_2 := fun hj => dn_up (h.l3_2 (dn_of hi hj (by decide))), l5_4 := fun _ => dn_up (hpre _ rfl ⟨4, .data⟩ (by simp) rfl), l7_6 := fun hj => dn_up (h.l7_6 (dn_of hi hj (by decide))), l9_8 := fun hj => dn_up (h.l9_8 (dn_of hi hj (by decide))), l10_9 := fun hj => dn_up (h.l10_9 (dn_of hi hj (by decide))), l11_3 := fun hj => dn_up (h.l11_3 (dn_of hi hj (by decide))), l11_5 := fun hj => dn_up (h.l11_5 (dn_of hi hj (by decide))), l11_7 := fun hj => dn_up (h.l11_7 (dn_of hi hj (by decide))), l11_10 := fun hj => dn_up (h.l11_10 (dn_of hi hj (by decide))), l12_0 := fun hj => dn_up (h.l12_0 (dn_of hi hj (by decide))), l12_1 := fun hj => dn_up (h.l12_1 (dn_of hi hj (by decide))), l12_2 := fun hj => dn_up (h.l12_2 (dn_of hi hj (by decide))), l12_3 := fun hj => dn_up (h.l12_3 (dn_of hi hj (by decide))), l12_4 := fun hj => dn_up (h.l12_4 (dn_of hi hj (by decide))), l12_5 := fun hj => dn_up (h.l12_5 (dn_of hi hj (by decide))), l12_6 := fun hj => dn_up (h.l12_6 (dn_of hi hj (by decide))), l12_7 := fun hj => dn_up (h.l12_7 (dn_of hi hj (by decide))), l12_8 := fun hj => dn_up (h.l12_8 (dn_of hi hj (by decide))), l12_9 := fun hj => dn_up (h.l12_9 (dn_of hi hj (by decide))), l12_10 := fun hj => dn_up (h.l12_10 (dn_of hi hj (by decide))), l12_11 := fun hj => dn_up (h.l12_11 (dn_of hi hj (by decide))), p0 := rp hi h.p0, p1 := rp hi h.p1, p2 := rp hi h.p2, p3 := rp hi h.p3, p4 := rp hi h.p4, p5 := fun _ => set_same (by have := h.siz; omega), p6 := rp hi h.p6, p7 := rp hi h.p7, p8 := rp hi h.p8, p9 := rp hi h.p9, p10 := rp hi h.p10 }⟩
              · have hi : 6 < d.size := by omega
                have q11 := h.k11
                have hnd' := not_dn hi hnd
                refine wpOp_plain rfl rfl ?_
                go_simp
                exact ⟨_, rfl, { bel := h.bel, siz := (by simpa using h.siz), kp := rk h.kp, k6 := rs h.k6, k11 := rs h.k11, oth := fun hk => h.oth (fun q => hk (dn_up q)), sl := fun hj hk => by obtain ⟨g, e1, e2⟩ := h.sl (dn_of hi hj (by decide)) (fun q => hk (dn_up q)); exact ⟨g, (set_other (by decide)).trans e1, e2⟩, res := fun hj => absurd (h.l12_6 (dn_of hi hj (by decide))) hnd', l2_1 := fun hj => dn_up (h.l2_1 (dn_of hi hj (by decide))), l3_2 := fun hj => dn_up (h.l3_2 (dn_of hi hj (by decide))), l5_4 := fun hj => dn_up (h.l5_4 (dn_of hi hj (by decide))), l7_6 := fun hj => dn_up (h.l7_6 (dn_of hi hj (by decide))), l9_8 := fun hj => dn_up (h.l9_8 (dn_of hi hj (by decide))), l10_9 := fun hj => dn_up (h.l10_9 (dn_of hi hj (by decide))), l11_3 := fun hj => dn_up (h.l11_3 (dn_of hi hj (by decide))), l11_5 := fun hj => dn_up (h.l11_5 (dn_of hi hj (by decide))), l11_7 := fun hj => dn_up (h.l11_7 (dn_of hi hj (by decide))), l11_10 := fun hj => dn_up (h.l11_10 (dn_of hi hj (by decide))), l12_0 := fun hj => dn_up (h.l12_0 (dn_of hi hj (by decide))), l12_1 := fun hj => dn_up (h.l12_1 (dn_of hi hj (by decide))), l12_2 := fun hj => dn_up (h.l12_2 (dn_of hi hj (by decide))), l12_3 := fun hj => dn_up (h.l12_3 (dn_of hi hj (by decide))), l12_4 := fun hj => dn_up (h.l12_4 (dn_of hi hj (by decide))), l12_5 := fun hj => dn_up (h.l12_5 (dn_of hi hj (by decide))), l12_6 := fun hj => dn_up (h.l12_6 (dn_of hi hj (by decide))), l12_7 := fun hj => dn_up (h.l12_7 (dn_of hi hj (by decide))), l12_8 := fun hj => dn_up (h.l12_8 (dn_of hi hj (by decide))), l12_9 := fun hj => dn_up (h.l12_9 (dn_of hi hj (by decide))), l12_10 := fun hj => dn_up (h.l12_10 (dn_of hi hj (by decide))), l12_11 := fun hj => dn_up (h.l12_11 (dn_of hi hj (by decide))), p0 := rp hi h.p0, p1 := rp hi h.p1, p2 := rp hi h.p2, p3 := rp hi h.p3, p4 := rp hi h.p4, p5 := rp hi h.p5, p6 := fun _ => set_same (by have := h.siz; omega), p7 := rp hi h.p7, p8 := rp hi h.p8, p9 := rp hi h.p9, p10 := rp hi h.p10 }⟩
              · have hi : 7 < d.size := by omega
                have e6 := h.p6 (hpre _ rfl ⟨6, .data⟩ (by simp) rfl)
                have hnd' := not_dn hi hnd
                have h7 : ¬ dn d 12 := fun q => hnd' (h.l12_7 q)
                obtain ⟨m0, m1, m2, m3⟩ := four_cells (((h.oth h7).block eb hE).trans HEN.out)
                refine wpOp_plain rfl rfl ?_
                go_simp
                exact ⟨_, rfl, { bel := h.bel, siz := (by simpa using h.siz), kp := rk h.kp, k6 := rs h.k6, k11 := rs h.k11, oth := fun hk => h.oth (fun q => hk (dn_up q)), sl := fun hj hk => by obtain ⟨g, e1, e2⟩ := h.sl (dn_of hi hj (by decide)) (fun q => hk (dn_up q)); exact ⟨g, (set_other (by decide)).trans e1, e2⟩, res := fun hj => absurd (h.l12_7 (dn_of hi hj (by decide))) hnd', l2_1 := fun hj => dn_up (h.l2_1 (dn_of hi hj (by decide))), l3_2 := fun hj => dn_up (h.l3_2 (dn_of hi hj (by decide))), l5_4 := fun hj => dn_up (h.l5_4 (dn_of hi hj (by decide))), l7_6 := fun _ => dn_up (hpre _ rfl ⟨6, .data⟩ (by simp) rfl), l9_8 := fun hj => dn_up (h.l9_8 (dn_of hi hj (by decide))), l10_9 := fun hj => dn_up (h.l10_9 (dn_of hi hj (by decide))), l11_3 := fun hj => dn_up (h.l11_3 (dn_of hi hj (by decide))), l11_5 := fun hj => dn_up (h.l11_5 (dn_of hi hj (by decide))), l11_7 := fun hj => dn_up (h.l11_7 (dn_of hi hj (by decide))), l11_10 := fun hj => dn_up (h.l11_10 (dn_of hi hj (by decide))), l12_0 := fun hj => dn_up (h.l12_0 (dn_of hi hj (by decide))), l12_1 := fun hj => dn_up (h.l12_1 (dn_of hi hj (by decide))), l12_2 := fun hj => dn_up (h.l12_2 (dn_of hi hj (by decide))), l12_3 := fun hj => dn_up (h.l12_3 (dn_of hi hj (by decide))), l12_4 := fun hj => dn_up (h.l12_4 (dn_of hi hj (by decide))), l12_5 := fun hj => dn_up (h.l12_5 (dn_of hi hj (by decide))), l12_6 := fun hj => dn_up (h.l12_6 (dn_of hi hj (by decide))), l12_7 := fun hj => dn_up (h.l12_7 (dn_of hi hj (by decide))), l12_8 := fun hj => dn_up (h.l12_8 (dn_of hi hj (by decide))), l12_9 := fun hj => dn_up (h.l12_9 (dn_of hi hj (by decide))), l12_10 := fun hj => dn_up (h.l12_10 (dn_of hi hj (by decide))), l12_11 := fun hj => dn_up (h.l12_11 (dn_of hi hj (by decide))), p0 := rp hi h.p0, p1 := rp hi h.p1, p2 := rp hi h.p2, p3 := rp hi h.p3, p4 := rp hi h.p4, p5 := rp hi h.p5, p6 := rp hi h.p6, p7 := fun _ => set_same (by have := h.siz; omega), p8 := rp hi h.p8, p9 := rp hi h.p9, p10 := rp hi h.p10 }⟩
              · have hi : 8 < d.size := by omega
                have q11 := h.k11
                have hnd' := not_dn hi hnd
                refine wpOp_plain rfl rfl ?_
                go_simp
                exact ⟨_, rfl, { bel := h.bel, siz := (by simpa using h.siz), kp := rk h.kp, k6 := rs h.k6, k11 := rs h.k11, oth := fun hk => h.oth (fun q => hk (dn_up q)), sl := fun hj hk => by obtain ⟨g, e1, e2⟩ := h.sl (dn_of hi hj (by decide)) (fun q => hk (dn_up q)); exact ⟨g, (set_other (by decide)).trans e1, e2⟩, res := fun hj => absurd (h.l12_8 (dn_of hi hj (by decide))) hnd', l2_1 := fun hj => dn_up (h.l2_1 (dn_of hi hj (by decide))), l3_2 := fun hj => dn_up (h.l3_2 (dn_of hi hj (by decide))), l5_4 := fun hj => dn_up (h.l5_4 (dn_of hi hj (by decide))), l7_6 := fun hj => dn_up (h.l7_6 (dn_of hi hj (by decide))), l9_8 := fun hj => dn_up (h.l9_8 (dn_of hi hj (by decide))), l10_9 := fun hj => dn_up (h.l10_9 (dn_of hi hj (by decide))), l11_3 := fun hj => dn_up (h.l11_3 (dn_of hi hj (by decide))), l11_5 := fun hj => dn_up (h.l11_5 (dn_of hi hj (by decide))), l11_7 := fun hj => dn_up (h.l11_7 (dn_of hi hj (by decide))), l11_10 := fun hj => dn_up (h.l11_10 (dn_of hi hj (by decide))), l12_0 := fun hj => dn_up (h.l12_0 (dn_of hi hj (by decide))), l12_1 := fun hj => dn_up (h.l12_1 (dn_of hi hj (by decide))), l12_2 := fun hj => dn_up (h.l12_2 (dn_of hi hj (by decide))), l12_3 := fun hj => dn_up (h.l12_3 (dn_of hi hj (by decide))), l12_4 := fun hj => dn_up (h.l12_4 (dn_of hi hj (by decide))), l12_5 := fun hj => dn_up (h.l12_5 (dn_of hi hj (by decide))), l12_6 := fun hj => dn_up (h.l12_6 (dn_of hi hj (by decide))), l12_7 := fun hj => dn_up (h.l12_7 (dn_of hi hj (by decide))), l12_8 := fun hj => dn_up (h.l12_8 (dn_of hi hj (by decide))), l12_9 := fun hj => dn_up (h.l12_9 (dn_of hi hj (by decide))), l12_10 := fun hj => dn_up (h.l12_10 (dn_of hi hj (by decide))), l12_11 := fun hj => dn_up (h.l12_11 (dn_of hi hj (by decide))), p0 := rp hi h.p0, p1 := rp hi h.p1, p2 := rp hi h.p2, p3 := rp hi h.p3, p4 := rp hi h.p4, p5 := rp hi h.p5, p6 := rp hi h.p6, p7 := rp hi h.p7, p8 := fun _ => set_same (by have := h.siz; omega), p9 := rp hi h.p9, p10 := rp hi h.p10 }⟩
              · have hi : 9 < d.size := by omega
                have e8 := h.p8 (hpre _ rfl ⟨8, .data⟩ (by simp) rfl)
                have hnd' := not_dn hi hnd
                have h7 : ¬ dn d 12 := fun q => hnd' (h.l12_9 q)
                obtain ⟨m0, m1, m2, m3⟩ := four_cells (((h.oth h7).block eb hE).trans HEN.out)
                refine wpOp_plain rfl rfl ?_
                go_simp
                exact ⟨_, rfl, { bel := h.bel, siz := (by simpa using h.siz), kp := rk h.kp, k6 := rs h.k6, k11 := rs h.k11, oth := fun hk => h.oth (fun q => hk (dn_up q)), sl := fun hj hk => by obtain ⟨g, e1, e2⟩ := h.sl (dn_of hi hj (by decide)) (fun q => hk (dn_up q)); exact ⟨g, (set_other (by decide)).trans e1, e2⟩, res := fun hj => absurd (h.l12_9 (dn_of hi hj (by decide))) hnd', l2_1 := fun hj => dn_up (h.l2_1 (dn_of hi hj (by decide))), l3_2 := fun hj => dn_up (h.l3_2 (dn_of hi hj (by decide))), l5_4 := fun hj => dn_up (h.l5_4 (dn_of hi hj (by decide))), l7_6 := fun hj => dn_up (h.l7_6 (dn_of hi hj (by decide))), l9_8 := fun _ => dn_up (hpre _ rfl ⟨8, .data⟩ (by simp) rfl), l10_9 := fun hj => dn_up (h.l10_9 (dn_of hi hj (by decide))), l11_3 := fun hj => dn_up (h.l11_3 (dn_of hi hj (by decide))), l11_5 := fun hj => dn_up (h.l11_5 (dn_of hi hj (by decide))), l11_7 := fun hj => dn_up (h.l11_7 (dn_of hi hj (by decide))), l11_10 := fun hj => dn_up (h.l11_10 (dn_of hi hj (by decide))), l12_0 := fun hj => dn_up (h.l12_0 (dn_of hi hj (by decide))), l12_1 := fun hj => dn_up (h.l12_1 (dn_of hi hj (by decide))), l12_2 := fun hj => dn_up (h.l12_2 (dn_of hi hj (by decide))), l12_3 := fun hj => dn_up (h.l12_3 (dn_of hi hj (by decide))), l12_4 := fun hj => dn_up (h.l12_4 (dn_of hi hj (by decide))), l12_5 := fun hj => dn_up (h.l12_5 (dn_of hi hj (by decide))), l12_6 := fun hj => dn_up (h.l12_6 (dn_of hi hj (by decide))), l12_7 := fun hj => dn_up (h.l12_7 (dn_of hi hj (by decide))), l12_8 := fun hj => dn_up (h.l12_8 (dn_of hi hj (by decide))), l12_9 := fun hj => dn_up (h.l12_9 (dn_of hi hj (by decide))), l12_10 := fun hj => dn_up (h.l12_10 (dn_of hi hj (by decide))), l12_11 := fun hj => dn_up (h.l12_11 (dn_of hi hj (by decide))), p0 := rp hi h.p0, p1 := rp hi h.p1, p2 := rp hi h.p2, p3 := rp hi h.p3, p4 := rp hi h.p4, p5 := rp hi h.p5, p6 := rp hi h.p6, p7 := rp hi h.p7, p8 := rp hi h.p8, p9 := fun _ => set_same (by have := h.siz; omega), p10 := rp hi h.p10 }⟩
              · have hi : 10 < d.size := by omega
                have hnd' := not_dn hi hnd
                have h7 : ¬ dn d 12 := fun q => hnd' (h.l12_10 q)
                have d9 : dn d 9 := hpre _ rfl ⟨9, .data⟩ (by simp) rfl
                have e9 := h.p9 d9
                refine wpOp_plain rfl rfl ?_
                go_simp
                refine ((HIT.out e.weight hwt) wc (HW0.out.trans ((h.oth h7).mono HW0.out.size))).mono ?_
                rintro e1 w1 ⟨rfl, hb⟩
                exact ⟨_, rfl, { bel := h.bel.trans (hb.mono (by have := (h.oth h7).size; omega)), siz := (by simpa using h.siz), kp := rk h.kp, k6 := rs h.k6, k11 := rs h.k11, oth := fun hk => (h.oth (fun q => hk (dn_up q))).trans (hb.mono (h.oth (fun q => hk (dn_up q))).size), sl := fun hj hk => by obtain ⟨g, e1, e2⟩ := h.sl (dn_of hi hj (by decide)) (fun q => hk (dn_up q)); exact ⟨g, (set_other (by decide)).trans e1, (e2.below hb).more hb.size⟩, res := fun hj => absurd (h.l12_10 (dn_of hi hj (by decide))) hnd', l2_1 := fun hj => dn_up (h.l2_1 (dn_of hi hj (by decide))), l3_2 := fun hj => dn_up (h.l3_2 (dn_of hi hj (by decide))), l5_4 := fun hj => dn_up (h.l5_4 (dn_of hi hj (by decide))), l7_6 := fun hj => dn_up (h.l7_6 (dn_of hi hj (by decide))), l9_8 := fun hj => dn_up (h.l9_8 (dn_of hi hj (by decide))), l10_9 := fun _ => dn_up (hpre _ rfl ⟨9, .data⟩ (by simp) rfl), l11_3 := fun hj => dn_up (h.l11_3 (dn_of hi hj (by decide))), l11_5 := fun hj => dn_up (h.l11_5 (dn_of hi hj (by decide))), l11_7 := fun hj => dn_up (h.l11_7 (dn_of hi hj (by decide))), l11_10 := fun hj => dn_up (h.l11_10 (dn_of hi hj (by decide))), l12_0 := fun hj => dn_up (h.l12_0 (dn_of hi hj (by decide))), l12_1 := fun hj => dn_up (h.l12_1 (dn_of hi hj (by decide))), l12_2 := fun hj => dn_up (h.l12_2 (dn_of hi hj (by decide))), l12_3 := fun hj => dn_up (h.l12_3 (dn_of hi hj (by decide))), l12_4 := fun hj => dn_up (h.l12_4 (dn_of hi hj (by decide))), l12_5 := fun hj => dn_up (h.l12_5 (dn_of hi hj (by decide))), l12_6 := fun hj => dn_up (h.l12_6 (dn_of hi hj (by decide))), l12_7 := fun hj => dn_up (h.l12_7 (dn_of hi hj (by decide))), l12_8 := fun hj => dn_up (h.l12_8 (dn_of hi hj (by decide))), l12_9 := fun hj => dn_up (h.l12_9 (dn_of hi hj (by decide))), l12_10 := fun hj => dn_up (h.l12_10 (dn_of hi hj (by decide))), l12_11 := fun hj => dn_up (h.l12_11 (dn_of hi hj (by decide))), p0 := rp hi h.p0, p1 := rp hi h.p1, p2 := rp hi h.p2, p3 := rp hi h.p3, p4 := rp hi h.p4, p5 := rp hi h.p5, p6 := rp hi h.p6, p7 := rp hi h.p7, p8 := rp hi h.p8, p9 := rp hi h.p9, p10 := fun _ => set_same (by have := h.siz; omega) }⟩
              · have hi : 11 < d.size := by omega
                have hnd' := not_dn hi hnd
                have h7 : ¬ dn d 12 := fun q => hnd' (h.l12_11 q)
                have d3 : dn d 3 := hpre _ rfl ⟨3, .data⟩ (by simp) rfl
                have d5 : dn d 5 := hpre _ rfl ⟨5, .data⟩ (by simp) rfl
                have d7 : dn d 7 := hpre _ rfl ⟨7, .data⟩ (by simp) rfl
                have d10 : dn d 10 := hpre _ rfl ⟨10, .data⟩ (by simp) rfl
                have e3 := h.p3 d3
                have e5 := h.p5 d5
                have e7 := h.p7 d7
                have e10 := h.p10 d10
                have hb : Below wc.heap.size wc (wc.alloc (.cells #[.string (⟨#[101, 110, 100, 105, 110, 103]⟩ : ByteArray), .string (⟨(Lib.itoa e.kind).toArray⟩ : ByteArray), .string e.text, .string e.name, .string (⟨(Lib.itoa e.weight).toArray⟩ : ByteArray)] 9)) := (Below.refl _ _).alloc (Nat.le_refl _) _
                refine wpOp_plain rfl rfl ?_
                go_simp
                exact ⟨_, rfl, { bel := h.bel.trans (hb.mono (by have := (h.oth h7).size; omega)), siz := (by simpa using h.siz), kp := rk h.kp, k6 := rs h.k6, k11 := rs h.k11, oth := fun hk => (h.oth (fun q => hk (dn_up q))).trans (hb.mono (h.oth (fun q => hk (dn_up q))).size), sl := fun _ _ => ⟨wc.heap.size, set_same (by have := h.siz; omega), rds_block (xs := [(⟨#[101, 110, 100, 105, 110, 103]⟩ : ByteArray), (⟨(Lib.itoa e.kind).toArray⟩ : ByteArray), e.text, e.name, (⟨(Lib.itoa e.weight).toArray⟩ : ByteArray)]) len_str (heap_alloc_new _ _) rfl (by simp) (Nat.le_refl 5) (by decide)⟩, res := fun hj => absurd (h.l12_11 (dn_of hi hj (by decide))) hnd', l2_1 := fun hj => dn_up (h.l2_1 (dn_of hi hj (by decide))), l3_2 := fun hj => dn_up (h.l3_2 (dn_of hi hj (by decide))), l5_4 := fun hj => dn_up (h.l5_4 (dn_of hi hj (by decide))), l7_6 := fun hj => dn_up (h.l7_6 (dn_of hi hj (by decide))), l9_8 := fun hj => dn_up (h.l9_8 (dn_of hi hj (by decide))), l10_9 := fun hj => dn_up (h.l10_9 (dn_of hi hj (by decide))), l11_3 := fun _ => dn_up (hpre _ rfl ⟨3, .data⟩ (by simp) rfl), l11_5 := fun _ => dn_up (hpre _ rfl ⟨5, .data⟩ (by simp) rfl), l11_7 := fun _ => dn_up (hpre _ rfl ⟨7, .data⟩ (by simp) rfl), l11_10 := fun _ => dn_up (hpre _ rfl ⟨10, .data⟩ (by simp) rfl), l12_0 := fun hj => dn_up (h.l12_0 (dn_of hi hj (by decide))), l12_1 := fun hj => dn_up (h.l12_1 (dn_of hi hj (by decide))), l12_2 := fun hj => dn_up (h.l12_2 (dn_of hi hj (by decide))), l12_3 := fun hj => dn_up (h.l12_3 (dn_of hi hj (by decide))), l12_4 := fun hj => dn_up (h.l12_4 (dn_of hi hj (by decide))), l12_5 := fun hj => dn_up (h.l12_5 (dn_of hi hj (by decide))), l12_6 := fun hj => dn_up (h.l12_6 (dn_of hi hj (by decide))), l12_7 := fun hj => dn_up (h.l12_7 (dn_of hi hj (by decide))), l12_8 := fun hj => dn_up (h.l12_8 (dn_of hi hj (by decide))), l12_9 := fun hj => dn_up (h.l12_9 (dn_of hi hj (by decide))), l12_10 := fun hj => dn_up (h.l12_10 (dn_of hi hj (by decide))), l12_11 := fun hj => dn_up (h.l12_11 (dn_of hi hj (by decide))), p0 := rp hi h.p0, p1 := rp hi h.p1, p2 := rp hi h.p2, p3 := rp hi h.p3, p4 := rp hi h.p4, p5 := rp hi h.p5, p6 := rp hi h.p6, p7 := rp hi h.p7, p8 := rp hi h.p8, p9 := rp hi h.p9, p10 := rp hi h.p10 }⟩
              · have hi : 12 < d.size := by omega
                have hnd' := not_dn hi hnd
                have d0 : dn d 0 := hpre _ rfl ⟨0, .data⟩ (by simp) rfl
                have d11 : dn d 11 := hpre _ rfl ⟨11, .data⟩ (by simp) rfl
                have d3 : dn d 3 := h.l11_3 d11
                have d5 : dn d 5 := h.l11_5 d11
                have d7 : dn d 7 := h.l11_7 d11
                have d10 : dn d 10 := h.l11_10 d11
                have d2 : dn d 2 := h.l3_2 d3
                have d4 : dn d 4 := h.l5_4 d5
                have d6 : dn d 6 := h.l7_6 d7
                have d9 : dn d 9 := h.l10_9 d10
                have d1 : dn d 1 := h.l2_1 d2
                have d8 : dn d 8 := h.l9_8 d9
                have e0 := h.p0 d0
                obtain ⟨g, e11, r11⟩ := h.sl d11 hnd'
                have hot := h.oth hnd'
                have hos := hot.size
                refine wpOp_plain rfl rfl ?_
                go_simp
                refine (Format1_any bb l _ [(⟨#[101, 110, 100, 105, 110, 103]⟩ : ByteArray), (⟨(Lib.itoa e.kind).toArray⟩ : ByteArray), e.text, e.name, (⟨(Lib.itoa e.weight).toArray⟩ : ByteArray)] wc (isBuilder_below HIB.out hot) (by omega) r11 (by show 0 < 5; omega) (by show 5 ≤ 10; omega) HLZ.out HLL.out).mono ?_
                rintro e1 w1 ⟨rfl, hib, hb⟩
                exact ⟨_, rfl, { bel := (hot.mono (by omega)).trans hb, siz := (by simpa using h.siz), kp := rk h.kp, k6 := rs h.k6, k11 := rs h.k11, oth := fun hk => absurd (dn_self hi) hk, sl := fun _ hk => absurd (dn_self hi) hk, res := fun _ => hib, l2_1 := fun hj => dn_up (h.l2_1 (dn_of hi hj (by decide))), l3_2 := fun hj => dn_up (h.l3_2 (dn_of hi hj (by decide))), l5_4 := fun hj => dn_up (h.l5_4 (dn_of hi hj (by decide))), l7_6 := fun hj => dn_up (h.l7_6 (dn_of hi hj (by decide))), l9_8 := fun hj => dn_up (h.l9_8 (dn_of hi hj (by decide))), l10_9 := fun hj => dn_up (h.l10_9 (dn_of hi hj (by decide))), l11_3 := fun hj => dn_up (h.l11_3 (dn_of hi hj (by decide))), l11_5 := fun hj => dn_up (h.l11_5 (dn_of hi hj (by decide))), l11_7 := fun hj => dn_up (h.l11_7 (dn_of hi hj (by decide))), l11_10 := fun hj => dn_up (h.l11_10 (dn_of hi hj (by decide))), l12_0 := fun _ => dn_up d0, l12_1 := fun _ => dn_up d1, l12_2 := fun _ => dn_up d2, l12_3 := fun _ => dn_up d3, l12_4 := fun _ => dn_up d4, l12_5 := fun _ => dn_up d5, l12_6 := fun _ => dn_up d6, l12_7 := fun _ => dn_up d7, l12_8 := fun _ => dn_up d8, l12_9 := fun _ => dn_up d9, l12_10 := fun _ => dn_up d10, l12_11 := fun _ => dn_up d11, p0 := rp hi h.p0, p1 := rp hi h.p1, p2 := rp hi h.p2, p3 := rp hi h.p3, p4 := rp hi h.p4, p5 := rp hi h.p5, p6 := rp hi h.p6, p7 := rp hi h.p7, p8 := rp hi h.p8, p9 := rp hi h.p9, p10 := rp hi h.p10 }⟩
            case gende =>
              intro d a wc hd hI hall
              obtain ⟨t, rfl, h⟩ := hI
              have hdn : ∀ j, j < 13 → dn d j := fun j hj => dn_all hd hall hj
              have hd : ∀ j, (_ : j < 13 := by decide) → dn d j := fun j hj => hdn j hj
              obtain ⟨t62, x62⟩ : ∃ v, t[62]? = some v := ⟨_, Array.getElem?_eq_getElem (by have := h.siz; omega)⟩
              obtain ⟨t63, x63⟩ : ∃ v, t[63]? = some v := ⟨_, Array.getElem?_eq_getElem (by have := h.siz; omega)⟩
              have hfe := frame_eq [(51, _), (52, _), (53, _), (54, _), (55, _), (56, _), (57, _), (58, _), (59, _), (60, _), (61, _), (62, _), (63, _)] (h.siz.trans rfl) h.kp rfl ⟨h.p0 (hd 0), h.p1 (hd 1), h.p2 (hd 2), h.p3 (hd 3), h.p4 (hd 4), h.p5 (hd 5), h.p6 (hd 6), h.p7 (hd 7), h.p8 (hd 8), h.p9 (hd 9), h.p10 (hd 10), x62, x63, trivial⟩
              simp only [List.foldl_cons, List.foldl_nil, List.setIfInBounds_toArray, List.set_cons_succ, List.set_cons_zero] at hfe
              have hbc := h.bel
              subst hfe
              have hres := h.res (hd 12)
              clear h hdn hall hd
              have hbc' := hbc
              have hres' := hres
              clear hbc hres
              rw [← HWS.out] at hres'
              have HRES := Lib.hid hres'
              have HBC := Lib.hid (HBR0.out.trans hbc')
              clear hres' hbc'
              go_wp2_with fail
              go_roundg (x.endings.length - (k + 1))
              case measure => omega
              case rel => exact ⟨k + 1, by omega, rfl, by go_num, by rw [Lx.flat_take HK.out, ← List.append_assoc, ← HLN.out]; exact HRES.out, HBC.out⟩
          · have hke : k = x.endings.length := by omega
            have hnI : ¬ (k : Int) < (x.endings.length : Int) := by omega
            have HALL : Hid (Lib.IsBuilder 95 5 bb bb (Lib.byteCells (P1 ++ x.endings.flatMap fun e => Lx.lineL (Lx.endingL e))) wr) := Lib.hid (by have q := HIBR.out; rw [List.take_of_length_le (by omega)] at q; exact q)
            obtain ⟨P2, hP⟩ : ∃ P, P = (P1 ++ x.endings.flatMap fun e => Lx.lineL (Lx.endingL e)) := ⟨_, rfl⟩
            rw [← hP] at HALL
            have HP2 := Lib.hid hP
            have HPL2 : Hid (P2.length ≤ 30000) := Lib.hid (by rw [hP]; rw [List.length_append]; have h3 := HPL1.out; have h1 := Lx.flat_len (f := fun e => Lx.lineL (Lx.endingL e)) (l := x.endings) (fun a ha => Lx.ending_len (Lx.Ending.fine (HF.out.e1 a ha))); omega)
            obtain ⟨p0, p1, p2⟩ := lex_cells ((HBR.out.block w.heap.size hwb).trans HX2.out)
            clear hP
            go_wp2_with fail
            go_loopg [68] x.clitics.length (fun g i wr => ∃ k : Nat, k ≤ x.clitics.length ∧ g = x.clitics.length - k ∧ i = .int .i64 k ∧ Lib.IsBuilder 95 5 bb bb (Lib.byteCells (P2 ++ (x.clitics.take k).flatMap fun e => Lx.lineL (Lx.cliticL e))) wr ∧ Below bb w2 wr)
            case atStart => exact ⟨0, Nat.zero_le _, rfl, rfl, by simpa using HALL.out, HBR.out⟩
            case round =>
              obtain ⟨k, hk, rfl, rfl, hib, hbr⟩ := hrel
              have HIBR := Lib.hid hib
              have HBR := Lib.hid hbr
              have hsr : w2.heap.size ≤ wr.heap.size := hbr.size
              have HWR : Hid (Below w.heap.size w wr) := Lib.hid (HB2.out.trans (hbr.mono (Nat.le_of_lt hwb)))
              clear hib hbr
              by_cases hlt : k < x.clitics.length
              · obtain ⟨b, off, rfl, hb, hcell⟩ := HR2.out.ex0 (by omega)
                obtain ⟨e, he⟩ : ∃ e, e = x.clitics[k] := ⟨_, rfl⟩
                have hk1 : x.clitics[k]? = some e := by rw [he]; exact List.getElem?_eq_getElem hlt
                have HK := Lib.hid hk1
                have HE := Lib.hid (Lx.Clitic.fine (HF.out.e2 e (List.mem_of_getElem? hk1)))
                have fg0 := (HWR.out.cell (p := ⟨b, off + k * 3, none⟩) hb).trans (by simpa using hcell k e hk1 0 _ rfl : w.cell? ⟨b, off + k * 3, none⟩ = some (.string e.text))
                have fg1 := (HWR.out.cell (p := ⟨b, off + k * 3 + 1, none⟩) hb).trans (hcell k e hk1 1 _ rfl)
                have fg2 := (HWR.out.cell (p := ⟨b, off + k * 3 + 2, none⟩) hb).trans (hcell k e hk1 2 _ rfl)
                clear he hk1 hcell
                go_upto_region 22 with fail
                obtain ⟨W0, hW0⟩ : ∃ W, W = wr.alloc (.cells #[.string e.text, .string e.name, .int .i64 e.weight] 65) := ⟨_, rfl⟩
                obtain ⟨eb, heb⟩ : ∃ e, e = wr.heap.size := ⟨_, rfl⟩
                have HBW : Hid (Below wr.heap.size wr W0) := Lib.hid (by rw [hW0]; exact (Below.refl _ _).alloc (Nat.le_refl _) _)
                have HEN : Hid (W0.heap[eb]? = some (.cells #[.string e.text, .string e.name, .int .i64 e.weight] 65 (0, 0))) := Lib.hid (by rw [hW0, heb]; exact heap_alloc_new _ _)
                have hE : eb < W0.heap.size := by rw [hW0, heb]; simp
                have hbW0 : bb < W0.heap.size := by have := HBW.out.size; omega
                have HIB := Lib.hid (isBuilder_below HIBR.out HBW.out)
                have HW0 := Lib.hid (HWR.out.trans (HBW.out.mono HWR.out.size))
                have HBR0 : Hid (Below bb w2 W0) := Lib.hid (HBR.out.trans (HBW.out.mono (by omega)))
                rw [← hW0, ← heb]
                obtain ⟨l, hl⟩ : ∃ l, l = (P2 ++ (x.clitics.take k).flatMap fun e => Lx.lineL (Lx.cliticL e)) := ⟨_, rfl⟩
                rw [← hl] at HIB
                have HLN := Lib.hid hl
                have HLL : Hid (l.length ≤ 1000000) := Lib.hid (by rw [hl]; rw [List.length_append]; have h3 := HPL2.out; have h1 := Lx.flat_take_len (f := fun e => Lx.lineL (Lx.cliticL e)) (l := x.clitics) k (fun a ha => Lx.clitic_len (Lx.Clitic.fine (HF.out.e2 a ha))); omega)
                have hwt : 0 ≤ e.weight ∧ e.weight ≤ 1000 := HE.out.w
                clear hl hW0 heb fg0 fg1 fg2
                have HWS : Hid (Lx.lineL (Lx.cliticL e) = Lx.lineL ([(⟨#[99, 108, 105, 116, 105, 99]⟩ : ByteArray), e.text, e.name, (⟨(Lib.itoa e.weight).toArray⟩ : ByteArray)].map (·.data.toList))) := Lib.hid (by unfold _root_.Lx.cliticL; rfl)
                have HLZ : Hid ((Lx.lineL ([(⟨#[99, 108, 105, 116, 105, 99]⟩ : ByteArray), e.text, e.name, (⟨(Lib.itoa e.weight).toArray⟩ : ByteArray)].map (·.data.toList))).length ≤ 100000) := Lib.hid (by rw [← HWS.out]; have := Lx.clitic_len HE.out; omega)
                go_upto_region 22 with fail
                refine wp_region_inv2T (fun T0 => FcI T0 W0 bb eb l e.text e.name e.weight) (by kernel_rfl) (by kernel_rfl) ?g0c ?gstepc ?gendc
                case g0c =>
                  have hno : ∀ j, ¬ dn (Array.replicate 10 false) j := by
                    intro j; unfold dn; by_cases hj : j < 10 <;> simp [Array.getD, hj]
                  have na : ∀ {j : Nat} {Z : Prop}, dn (Array.replicate 10 false) j → Z := fun hj => absurd hj (hno _)
                  exact ⟨_, rfl, { bel := (Below.refl _ _).drew, siz := rfl, kp := fun _ _ => rfl, k6 := rfl, k13 := rfl, p0 := na, p1 := na, p2 := na, p3 := na, p4 := na, p5 := na, p6 := na, p7 := na, oth := fun _ => (Below.refl _ _).drew, sl := fun hj => absurd hj (hno _), res := fun hj => absurd hj (hno _), l2_1 := fun hj => absurd hj (hno _), l4_3 := fun hj => absurd hj (hno _), l6_5 := fun hj => absurd hj (hno _), l7_6 := fun hj => absurd hj (hno _), l8_2 := fun hj => absurd hj (hno _), l8_4 := fun hj => absurd hj (hno _), l8_7 := fun hj => absurd hj (hno _), l9_0 := fun hj => absurd hj (hno _), l9_1 := fun hj => absurd hj (hno _), l9_2 := fun hj => absurd hj (hno _), l9_3 := fun hj => absurd hj (hno _), l9_4 := fun hj => absurd hj (hno _), l9_5 := fun hj => absurd hj (hno _), l9_6 := fun hj => absurd hj (hno _), l9_7 := fun hj => absurd hj (hno _), l9_8 := fun hj => absurd hj (hno _) }⟩
                case gstepc =>
                  intro T0 d a wc i hd hI hi
                  obtain ⟨hlt, hnd, hpre⟩ := mem_ready hi
                  have hd' : d.size = 10 := hd
                  have hin : i < 10 := hlt
                  clear hi hd hlt
                  obtain ⟨t, rfl, h⟩ := hI
                  have hcs : i = 0 ∨ i = 1 ∨ i = 2 ∨ i = 3 ∨ i = 4 ∨ i = 5 ∨ i = 6 ∨ i = 7 ∨ i = 8 ∨ i = 9 := by omega
                  rcases hcs with rfl | rfl | rfl | rfl | rfl | rfl | rfl | rfl | rfl | rfl
                  · have hi : 0 < d.size := by omega
                    have q6 := h.k6
                    have hnd' := not_dn hi hnd
                    refine wpOp_plain rfl rfl ?_
                    go_simp
                    exact ⟨_, rfl, { bel := h.bel, siz := (by simpa using h.siz), kp := rk h.kp, k6 := rs h.k6, k13 := rs h.k13, oth := fun hk => h.oth (fun q => hk (dn_up q)), sl := fun hj hk => by obtain ⟨g, e1, e2⟩ := h.sl (dn_of hi hj (by decide)) (fun q => hk (dn_up q)); exact ⟨g, (set_other (by decide)).trans e1, e2⟩, res := fun hj => absurd (h.l9_0 (dn_of hi hj (by decide))) hnd', l2_1 := fun hj => dn_up (h.l2_1 (dn_of hi hj (by decide))), l4_3 := fun hj => dn_up (h.l4_3 (dn_of hi hj (by decide))), l6_5 := fun hj => dn_up (h.l6_5 (dn_of hi hj (by decide))), l7_6 := fun hj => dn_up (h.l7_6 (dn_of hi hj (by decide))), l8_2 := fun hj => dn_up (h.l8_2 (dn_of hi hj (by decide))), l8_4 := fun hj => dn_up (h.l8_4 (dn_of hi hj (by decide))), l8_7 := fun hj => dn_up (h.l8_7 (dn_of hi hj (by decide))), l9_0 := fun hj => dn_up (h.l9_0 (dn_of hi hj (by decide))), l9_1 := fun hj => dn_up (h.l9_1 (dn_of hi hj (by decide))), l9_2 := fun hj => dn_up (h.l9_2 (dn_of hi hj (by decide))), l9_3 := fun hj => dn_up (h.l9_3 (dn_of hi hj (by decide))), l9_4 := fun hj => dn_up (h.l9_4 (dn_of hi hj (by decide))), l9_5 := fun hj => dn_up (h.l9_5 (dn_of hi hj (by decide))), l9_6 := fun hj => dn_up (h.l9_6 (dn_of hi hj (by decide))), l9_7 := fun hj => dn_up (h.l9_7 (dn_of hi hj (by decide))), l9_8 := fun hj => dn_up (h.l9_8 (dn_of hi hj (by decide))), p0 := fun _ => set_same (by have := h.siz; omega), p1 := rp hi h.p1, p2 := rp hi h.p2, p3 := rp hi h.p3, p4 := rp hi h.p4, p5 := rp hi h.p5, p6 := rp hi h.p6, p7 := rp hi h.p7 }⟩
                  · have hi : 1 < d.size := by omega
                    have q13 := h.k13
                    have hnd' := not_dn hi hnd
                    refine wpOp_plain rfl rfl ?_
                    go_simp
                    exact ⟨_, rfl, { bel := h.bel, siz := (by simpa using h.siz), kp := rk h.kp, k6 := rs h.k6, k13 := rs h.k13, oth := fun hk => h.oth (fun q => hk (dn_up q)), sl := fun hj hk => by obtain ⟨g, e1, e2⟩ := h.sl (dn_of hi hj (by decide)) (fun q => hk (dn_up q)); exact ⟨g, (set_other (by decide)).trans e1, e2⟩, res := fun hj => absurd (h.l9_1 (dn_of hi hj (by decide))) hnd', l2_1 := fun hj => dn_up (h.l2_1 (dn_of hi hj (by decide))), l4_3 := fun hj => dn_up (h.l4_3 (dn_of hi hj (by decide))), l6_5 := fun hj => dn_up (h.l6_5 (dn_of hi hj (by decide))), l7_6 := fun hj => dn_up (h.l7_6 (dn_of hi hj (by decide))), l8_2 := fun hj => dn_up (h.l8_2 (dn_of hi hj (by decide))), l8_4 := fun hj => dn_up (h.l8_4 (dn_of hi hj (by decide))), l8_7 := fun hj => dn_up (h.l8_7 (dn_of hi hj (by decide))), l9_0 := fun hj => dn_up (h.l9_0 (dn_of hi hj (by decide))), l9_1 := fun hj => dn_up (h.l9_1 (dn_of hi hj (by decide))), l9_2 := fun hj => dn_up (h.l9_2 (dn_of hi hj (by decide))), l9_3 := fun hj => dn_up (h.l9_3 (dn_of hi hj (by decide))), l9_4 := fun hj => dn_up (h.l9_4 (dn_of hi hj (by decide))), l9_5 := fun hj => dn_up (h.l9_5 (dn_of hi hj (by decide))), l9_6 := fun hj => dn_up (h.l9_6 (dn_of hi hj (by decide))), l9_7 := fun hj => dn_up (h.l9_7 (dn_of hi hj (by decide))), l9_8 := fun hj => dn_up (h.l9_8 (dn_of hi hj (by decide))), p0 := rp hi h.p0, p1 := fun _ => set_same (by have := h.siz; omega), p2 := rp hi h.p2, p3 := rp hi h.p3, p4 := rp hi h.p4, p5 := rp hi h.p5, p6 := rp hi h.p6, p7 := rp hi h.p7 }⟩
                  · have hi : 2 < d.size := by omega
                    have e1 := h.p1 (hpre _ rfl ⟨1, .data⟩ (by simp) rfl)
                    have hnd' := not_dn hi hnd
                    have h7 : ¬ dn d 9 := fun q => hnd' (h.l9_2 q)
                    obtain ⟨m0, m1, m2⟩ := three_cells (((h.oth h7).block eb hE).trans HEN.out)
                    refine wpOp_plain rfl rfl ?_
                    go_simp
                    exact ⟨_, rfl, { bel := h.bel, siz := (by simpa using h.siz), kp := rk h.kp, k6 := rs h.k6, k13 := rs h.k13, oth := fun hk => h.oth (fun q => hk (dn_up q)), sl := fun hj hk => by obtain ⟨g, e1, e2⟩ := h.sl (dn_of hi hj (by decide)) (fun q => hk (dn_up q)); exact ⟨g, (set_other (by decide)).trans e1, e2⟩, res := fun hj => absurd (h.l9_2 (dn_of hi hj (by decide))) hnd', l2_1 := fun _ => dn_up (hpre _ rfl ⟨1, .data⟩ (by simp) rfl), l4_3 := fun hj => dn_up (h.l4_3 (dn_of hi hj (by decide))), l6_5 := fun hj => dn_up (h.l6_5 (dn_of hi hj (by decide))), l7_6 := fun hj => dn_up (h.l7_6 (dn_of hi hj (by decide))), l8_2 := fun hj => dn_up (h.l8_2 (dn_of hi hj (by decide))), l8_4 := fun hj => dn_up (h.l8_4 (dn_of hi hj (by decide))), l8_7 := fun hj => dn_up (h.l8_7 (dn_of hi hj (by decide))), l9_0 := fun hj => dn_up (h.l9_0 (dn_of hi hj (by decide))), l9_1 := fun hj => dn_up (h.l9_1 (dn_of hi hj (by decide))), l9_2 := fun hj => dn_up (h.l9_2 (dn_of hi hj (by decide))), l9_3 := fun hj => dn_up (h.l9_3 (dn_of hi hj (by decide))), l9_4 := fun hj => dn_up (h.l9_4 (dn_of hi hj (by decide))), l9_5 := fun hj => dn_up (h.l9_5 (dn_of hi hj (by decide))), l9_6 := fun hj => dn_up (h.l9_6 (dn_of hi hj (by decide))), l9_7 := fun hj => dn_up (h.l9_7 (dn_of hi hj (by decide))), l9_8 := fun hj => dn_up (h.l9_8 (dn_of hi hj (by decide))), p0 := rp hi h.p0, p1 := rp hi h.p1, p2 := fun _ => set_same (by have := h.siz; omega), p3 := rp hi h.p3, p4 := rp hi h.p4, p5 := rp hi h.p5, p6 := rp hi h.p6, p7 := rp hi h.p7 }⟩
                  · have hi : 3 < d.size := by omega
                    have q13 := h.k13
                    have hnd' := not_dn hi hnd
                    refine wpOp_plain rfl rfl ?_
                    go_simp
                    exact ⟨_, rfl, { bel := h.bel, siz := (by simpa using h.siz), kp := rk h.kp, k6 := rs h.k6, k13 := rs h.k13, oth := fun hk => h.oth (fun q => hk (dn_up q)), sl := fun hj hk => by obtain ⟨g, e1, e2⟩ := h.sl (dn_of hi hj (by decide)) (fun q => hk (dn_up q)); exact ⟨g, (set_other (by decide)).trans e1, e2⟩, res := fun hj => absurd (h.l9_3 (dn_of hi hj (by decide))) hnd', l2_1 := fun hj => dn_up (h.l2_1 (dn_of hi hj (by decide))), l4_3 := fun hj => dn_up (h.l4_3 (dn_of hi hj (by decide))), l6_5 := fun hj => dn_up (h.l6_5 (dn_of hi hj (by decide))), l7_6 := fun hj => dn_up (h.l7_6 (dn_of hi hj (by decide))), l8_2 := fun hj => dn_up (h.l8_2 (dn_of hi hj (by decide))), l8_4 := fun hj => dn_up (h.l8_4 (dn_of hi hj (by decide))), l8_7 := fun hj => dn_up (h.l8_7 (dn_of hi hj (by decide))), l9_0 := fun hj => dn_up (h.l9_0 (dn_of hi hj (by decide))), l9_1 := fun hj => dn_up (h.l9_1 (dn_of hi hj (by decide))), l9_2 := fun hj => dn_up (h.l9_2 (dn_of hi hj (by decide))), l9_3 := fun hj => dn_up (h.l9_3 (dn_of hi hj (by decide))), l9_4 := fun hj => dn_up (h.l9_4 (dn_of hi hj (by decide))), l9_5 := fun hj => dn_up (h.l9_5 (dn_of hi hj (by decide))), l9_6 := fun hj => dn_up (h.l9_6 (dn_of hi hj (by decide))), l9_7 := fun hj => dn_up (h.l9_7 (dn_of hi hj (by decide))), l9_8 := fun hj => dn_up (h.l9_8 (dn_of hi hj (by decide))), p0 := rp hi h.p0, p1 := rp hi h.p1, p2 := rp hi h.p2, p3 := fun _ => set_same (by have := h.siz; omega), p4 := rp hi h.p4, p5 := rp hi h.p5, p6 := rp hi h.p6, p7 := rp hi h.p7 }⟩
                  · have hi : 4 < d.size := by omega
                    have e3 := h.p3 (hpre _ rfl ⟨3, .data⟩ (by simp) rfl)
                    have hnd' := not_dn hi hnd
                    have h7 : ¬ dn d 9 := fun q => hnd' (h.l9_4 q)
                    obtain ⟨m0, m1, m2⟩ := three_cells (((h.oth h7).block eb hE).trans HEN.out)
                    refine wpOp_plain rfl rfl ?_
                    go_simp
                    exact ⟨_, rfl, { bel := h.bel, siz := (by simpa using h.siz), kp := rk h.kp, k6 := rs h.k6, k13 := rs h.k13, oth := fun hk => h.oth (fun q => hk (dn_up q)), sl := fun hj hk => by obtain ⟨g, e1, e2⟩ := h.sl (dn_of hi hj (by decide)) (fun q => hk (dn_up q)); exact ⟨g, (set_other (by decide)).trans e1, e2⟩, res := fun hj => absurd (h.l9_4 (dn_of hi hj (by decide))) hnd', l2_1 := fun hj => dn_up (h.l2_1 (dn_of hi hj (by decide))), l4_3 := fun _ => dn_up (hpre _ rfl ⟨3, .data⟩ (by simp) rfl), l6_5 := fun hj => dn_up (h.l6_5 (dn_of hi hj (by decide))), l7_6 := fun hj => dn_up (h.l7_6 (dn_of hi hj (by decide))), l8_2 := fun hj => dn_up (h.l8_2 (dn_of hi hj (by decide))), l8_4 := fun hj => dn_up (h.l8_4 (dn_of hi hj (by decide))), l8_7 := fun hj => dn_up (h.l8_7 (dn_of hi hj (by decide))), l9_0 := fun hj => dn_up (h.l9_0 (dn_of hi hj (by decide))), l9_1 := fun hj => dn_up (h.l9_1 (dn_of hi hj (by decide))), l9_2 := fun hj => dn_up (h.l9_2 (dn_of hi hj (by decide))), l9_3 := fun hj => dn_up (h.l9_3 (dn_of hi hj (by decide))), l9_4 := fun hj => dn_up (h.l9_4 (dn_of hi hj (by decide))), l9_5 := fun hj => dn_up (h.l9_5 (dn_of hi hj (by decide))), l9_6 := fun hj => dn_up (h.l9_6 (dn_of hi hj (by decide))), l9_7 := fun hj => dn_up (h.l9_7 (dn_of hi hj (by decide))), l9_8 := fun hj => dn_up (h.l9_8 (dn_of hi hj (by decide))), p0 := rp hi h.p0, p1 := rp hi h.p1, p2 := rp hi h.p2, p3 := rp hi h.p3, p4 := fun _ => set_same (by have := h.siz; omega), p5 := rp hi h.p5, p6 := rp hi h.p6, p7 := rp hi h.p7 }⟩
                  · have hi : 5 < d.size := by omega
                    have q13 := h.k13
                    have hnd' := not_dn hi hnd
                    refine wpOp_plain rfl rfl ?_
                    go_simp
                    exact ⟨_, rfl, { bel := h.bel, siz := (by simpa using h.siz), kp := rk h.kp, k6 := rs h.k6, k13 := rs h.k13, oth := fun hk => h.oth (fun q => hk (dn_up q)), sl := fun hj hk => by obtain ⟨g, e1, e2⟩ := h.sl (dn_of hi hj (by decide)) (fun q => hk (dn_up q)); exact ⟨g, (set_other (by decide)).trans e1, e2⟩, res := fun hj => absurd (h.l9_5 (dn_of hi hj (by decide))) hnd', l2_1 := fun hj => dn_up (h.l2_1 (dn_of hi hj (by decide))), l4_3 := fun hj => dn_up (h.l4_3 (dn_of hi hj (by decide))), l6_5 := fun hj => dn_up (h.l6_5 (dn_of hi hj (by decide))), l7_6 := fun hj => dn_up (h.l7_6 (dn_of hi hj (by decide))), l8_2 := fun hj => dn_up (h.l8_2 (dn_of hi hj (by decide))), l8_4 := fun hj => dn_up (h.l8_4 (dn_of hi hj (by decide))), l8_7 := fun hj => dn_up (h.l8_7 (dn_of hi hj (by decide))), l9_0 := fun hj => dn_up (h.l9_0 (dn_of hi hj (by decide))), l9_1 := fun hj => dn_up (h.l9_1 (dn_of hi hj (by decide))), l9_2 := fun hj => dn_up (h.l9_2 (dn_of hi hj (by decide))), l9_3 := fun hj => dn_up (h.l9_3 (dn_of hi hj (by decide))), l9_4 := fun hj => dn_up (h.l9_4 (dn_of hi hj (by decide))), l9_5 := fun hj => dn_up (h.l9_5 (dn_of hi hj (by decide))), l9_6 := fun hj => dn_up (h.l9_6 (dn_of hi hj (by decide))), l9_7 := fun hj => dn_up (h.l9_7 (dn_of hi hj (by decide))), l9_8 := fun hj => dn_up (h.l9_8 (dn_of hi hj (by decide))), p0 := rp hi h.p0, p1 := rp hi h.p1, p2 := rp hi h.p2, p3 := rp hi h.p3, p4 := rp hi h.p4, p5 := fun _ => set_same (by have := h.siz; omega), p6 := rp hi h.p6, p7 := rp hi h.p7 }⟩
                  · have hi : 6 < d.size := by omega
                    have e5 := h.p5 (hpre _ rfl ⟨5, .data⟩ (by simp) rfl)
                    have hnd' := not_dn hi hnd
                    have h7 : ¬ dn d 9 := fun q => hnd' (h.l9_6 q)
                    obtain ⟨m0, m1, m2⟩ := three_cells (((h.oth h7).block eb hE).trans HEN.out)
                    refine wpOp_plain rfl rfl ?_
                    go_simp
                    exact ⟨_, rfl, { bel := h.bel, siz := (by simpa using h.siz), kp := rk h.kp, k6 := rs h.k6, k13 := rs h.k13, oth := fun hk => h.oth (fun q => hk (dn_up q)), sl := fun hj hk => by obtain ⟨g, e1, e2⟩ := h.sl (dn_of hi hj (by decide)) (fun q => hk (dn_up q)); exact ⟨g, (set_other (by decide)).trans e1, e2⟩, res := fun hj => absurd (h.l9_6 (dn_of hi hj (by decide))) hnd', l2_1 := fun hj => dn_up (h.l2_1 (dn_of hi hj (by decide))), l4_3 := fun hj => dn_up (h.l4_3 (dn_of hi hj (by decide))), l6_5 := fun _ => dn_up (hpre _ rfl ⟨5, .data⟩ (by simp) rfl), l7_6 := fun hj => dn_up (h.l7_6 (dn_of hi hj (by decide))), l8_2 := fun hj => dn_up (h.l8_2 (dn_of hi hj (by decide))), l8_4 := fun hj => dn_up (h.l8_4 (dn_of hi hj (by decide))), l8_7 := fun hj => dn_up (h.l8_7 (dn_of hi hj (by decide))), l9_0 := fun hj => dn_up (h.l9_0 (dn_of hi hj (by decide))), l9_1 := fun hj => dn_up (h.l9_1 (dn_of hi hj (by decide))), l9_2 := fun hj => dn_up (h.l9_2 (dn_of hi hj (by decide))), l9_3 := fun hj => dn_up (h.l9_3 (dn_of hi hj (by decide))), l9_4 := fun hj => dn_up (h.l9_4 (dn_of hi hj (by decide))), l9_5 := fun hj => dn_up (h.l9_5 (dn_of hi hj (by decide))), l9_6 := fun hj => dn_up (h.l9_6 (dn_of hi hj (by decide))), l9_7 := fun hj => dn_up (h.l9_7 (dn_of hi hj (by decide))), l9_8 := fun hj => dn_up (h.l9_8 (dn_of hi hj (by decide))), p0 := rp hi h.p0, p1 := rp hi h.p1, p2 := rp hi h.p2, p3 := rp hi h.p3, p4 := rp hi h.p4, p5 := rp hi h.p5, p6 := fun _ => set_same (by have := h.siz; omega), p7 := rp hi h.p7 }⟩
                  · have hi : 7 < d.size := by omega
                    have hnd' := not_dn hi hnd
                    have h7 : ¬ dn d 9 := fun q => hnd' (h.l9_7 q)
                    have d6 : dn d 6 := hpre _ rfl ⟨6, .data⟩ (by simp) rfl
                    have e6 := h.p6 d6
                    refine wpOp_plain rfl rfl ?_
                    go_simp
                    refine ((HIT.out e.weight hwt) wc (HW0.out.trans ((h.oth h7).mono HW0.out.size))).mono ?_
                    rintro e1 w1 ⟨rfl, hb⟩
                    exact ⟨_, rfl, { bel := h.bel.trans (hb.mono (by have := (h.oth h7).size; omega)), siz := (by simpa using h.siz), kp := rk h.kp, k6 := rs h.k6, k13 := rs h.k13, oth := fun hk => (h.oth (fun q => hk (dn_up q))).trans (hb.mono (h.oth (fun q => hk (dn_up q))).size), sl := fun hj hk => by obtain ⟨g, e1, e2⟩ := h.sl (dn_of hi hj (by decide)) (fun q => hk (dn_up q)); exact ⟨g, (set_other (by decide)).trans e1, (e2.below hb).more hb.size⟩, res := fun hj => absurd (h.l9_7 (dn_of hi hj (by decide))) hnd', l2_1 := fun hj => dn_up (h.l2_1 (dn_of hi hj (by decide))), l4_3 := fun hj => dn_up (h.l4_3 (dn_of hi hj (by decide))), l6_5 := fun hj => dn_up (h.l6_5 (dn_of hi hj (by decide))), l7_6 := fun _ => dn_up (hpre _ rfl ⟨6, .data⟩ (by simp) rfl), l8_2 := fun hj => dn_up (h.l8_2 (dn_of hi hj (by decide))), l8_4 := fun hj => dn_up (h.l8_4 (dn_of hi hj (by decide))), l8_7 := fun hj => dn_up (h.l8_7 (dn_of hi hj (by decide))), l9_0 := fun hj => dn_up (h.l9_0 (dn_of hi hj (by decide))), l9_1 := fun hj => dn_up (h.l9_1 (dn_of hi hj (by decide))), l9_2 := fun hj => dn_up (h.l9_2 (dn_of hi hj (by decide))), l9_3 := fun hj => dn_up (h.l9_3 (dn_of hi hj (by decide))), l9_4 := fun hj => dn_up (h.l9_4 (dn_of hi hj (by decide))), l9_5 := fun hj => dn_up (h.l9_5 (dn_of hi hj (by decide))), l9_6 := fun hj => dn_up (h.l9_6 (dn_of hi hj (by decide))), l9_7 := fun hj => dn_up (h.l9_7 (dn_of hi hj (by decide))), l9_8 := fun hj => dn_up (h.l9_8 (dn_of hi hj (by decide))), p0 := rp hi h.p0, p1 := rp hi h.p1, p2 := rp hi h.p2, p3 := rp hi h.p3, p4 := rp hi h.p4, p5 := rp hi h.p5, p6 := rp hi h.p6, p7 := fun _ => set_same (by have := h.siz; omega) }⟩
                  · have hi : 8 < d.size := by omega
                    have hnd' := not_dn hi hnd
                    have h7 : ¬ dn d 9 := fun q => hnd' (h.l9_8 q)
                    have d2 : dn d 2 := hpre _ rfl ⟨2, .data⟩ (by simp) rfl
                    have d4 : dn d 4 := hpre _ rfl ⟨4, .data⟩ (by simp) rfl
                    have d7 : dn d 7 := hpre _ rfl ⟨7, .data⟩ (by simp) rfl
                    have e2 := h.p2 d2
                    have e4 := h.p4 d4
                    have e7 := h.p7 d7
                    have hb : Below wc.heap.size wc (wc.alloc (.cells #[.string (⟨#[99, 108, 105, 116, 105, 99]⟩ : ByteArray), .string e.text, .string e.name, .string (⟨(Lib.itoa e.weight).toArray⟩ : ByteArray)] 9)) := (Below.refl _ _).alloc (Nat.le_refl _) _
                    refine wpOp_plain rfl rfl ?_
                    go_simp
                    exact ⟨_, rfl, { bel := h.bel.trans (hb.mono (by have := (h.oth h7).size; omega)), siz := (by simpa using h.siz), kp := rk h.kp, k6 := rs h.k6, k13 := rs h.k13, oth := fun hk => (h.oth (fun q => hk (dn_up q))).trans (hb.mono (h.oth (fun q => hk (dn_up q))).size), sl := fun _ _ => ⟨wc.heap.size, set_same (by have := h.siz; omega), rds_block (xs := [(⟨#[99, 108, 105, 116, 105, 99]⟩ : ByteArray), e.text, e.name, (⟨(Lib.itoa e.weight).toArray⟩ : ByteArray)]) len_str (heap_alloc_new _ _) rfl (by simp) (Nat.le_refl 4) (by decide)⟩, res := fun hj => absurd (h.l9_8 (dn_of hi hj (by decide))) hnd', l2_1 := fun hj => dn_up (h.l2_1 (dn_of hi hj (by decide))), l4_3 := fun hj => dn_up (h.l4_3 (dn_of hi hj (by decide))), l6_5 := fun hj => dn_up (h.l6_5 (dn_of hi hj (by decide))), l7_6 := fun hj => dn_up (h.l7_6 (dn_of hi hj (by decide))), l8_2 := fun _ => dn_up (hpre _ rfl ⟨2, .data⟩ (by simp) rfl), l8_4 := fun _ => dn_up (hpre _ rfl ⟨4, .data⟩ (by simp) rfl), l8_7 := fun _ => dn_up (hpre _ rfl ⟨7, .data⟩ (by simp) rfl), l9_0 := fun hj => dn_up (h.l9_0 (dn_of hi hj (by decide))), l9_1 := fun hj => dn_up (h.l9_1 (dn_of hi hj (by decide))), l9_2 := fun hj => dn_up (h.l9_2 (dn_of hi hj (by decide))), l9_3 := fun hj => dn_up (h.l9_3 (dn_of hi hj (by decide))), l9_4 := fun hj => dn_up (h.l9_4 (dn_of hi hj (by decide))), l9_5 := fun hj => dn_up (h.l9_5 (dn_of hi hj (by decide))), l9_6 := fun hj => dn_up (h.l9_6 (dn_of hi hj (by decide))), l9_7 := fun hj => dn_up (h.l9_7 (dn_of hi hj (by decide))), l9_8 := fun hj => dn_up (h.l9_8 (dn_of hi hj (by decide))), p0 := rp hi h.p0, p1 := rp hi h.p1, p2 := rp hi h.p2, p3 := rp hi h.p3, p4 := rp hi h.p4, p5 := rp hi h.p5, p6 := rp hi h.p6, p7 := rp hi h.p7 }⟩
                  · have hi : 9 < d.size := by omega
                    have hnd' := not_dn hi hnd
                    have d0 : dn d 0 := hpre _ rfl ⟨0, .data⟩ (by simp) rfl
                    have d8 : dn d 8 := hpre _ rfl ⟨8, .data⟩ (by simp) rfl
                    have d2 : dn d 2 := h.l8_2 d8
                    have d4 : dn d 4 := h.l8_4 d8
                    have d7 : dn d 7 := h.l8_7 d8
                    have d1 : dn d 1 := h.l2_1 d2
                    have d3 : dn d 3 := h.l4_3 d4
                    have d6 : dn d 6 := h.l7_6 d7
                    have d5 : dn d 5 := h.l6_5 d6
                    have e0 := h.p0 d0
                    obtain ⟨g, e8, r8⟩ := h.sl d8 hnd'
                    have hot := h.oth hnd'
                    have hos := hot.size
                    refine wpOp_plain rfl rfl ?_
                    go_simp
                    refine (Format1_any bb l _ [(⟨#[99, 108, 105, 116, 105, 99]⟩ : ByteArray), e.text, e.name, (⟨(Lib.itoa e.weight).toArray⟩ : ByteArray)] wc (isBuilder_below HIB.out hot) (by omega) r8 (by show 0 < 4; omega) (by show 4 ≤ 10; omega) HLZ.out HLL.out).mono ?_
                    rintro e1 w1 ⟨rfl, hib, hb⟩
                    exact ⟨_, rfl, { bel := (hot.mono (by omega)).trans hb, siz := (by simpa using h.siz), kp := rk h.kp, k6 := rs h.k6, k13 := rs h.k13, oth := fun hk => absurd (dn_self hi) hk, sl := fun _ hk => absurd (dn_self hi) hk, res := fun _ => hib, l2_1 := fun hj => dn_up (h.l2_1 (dn_of hi hj (by decide))), l4_3 := fun hj => dn_up (h.l4_3 (dn_of hi hj (by decide))), l6_5 := fun hj => dn_up (h.l6_5 (dn_of hi hj (by decide))), l7_6 := fun hj => dn_up (h.l7_6 (dn_of hi hj (by decide))), l8_2 := fun hj => dn_up (h.l8_2 (dn_of hi hj (by decide))), l8_4 := fun hj => dn_up (h.l8_4 (dn_of hi hj (by decide))), l8_7 := fun hj => dn_up (h.l8_7 (dn_of hi hj (by decide))), l9_0 := fun _ => dn_up d0, l9_1 := fun _ => dn_up d1, l9_2 := fun _ => dn_up d2, l9_3 := fun _ => dn_up d3, l9_4 := fun _ => dn_up d4, l9_5 := fun _ => dn_up d5, l9_6 := fun _ => dn_up d6, l9_7 := fun _ => dn_up d7, l9_8 := fun _ => dn_up d8, p0 := rp hi h.p0, p1 := rp hi h.p1, p2 := rp hi h.p2, p3 := rp hi h.p3, p4 := rp hi h.p4, p5 := rp hi h.p5, p6 := rp hi h.p6, p7 := rp hi h.p7 }⟩
                case gendc =>
                  intro d a wc hd hI hall
                  obtain ⟨t, rfl, h⟩ := hI
                  have hdn : ∀ j, j < 10 → dn d j := fun j hj => dn_all hd hall hj
                  have hd : ∀ j, (_ : j < 10 := by decide) → dn d j := fun j hj => hdn j hj
                  obtain ⟨t80, x80⟩ : ∃ v, t[80]? = some v := ⟨_, Array.getElem?_eq_getElem (by have := h.siz; omega)⟩
                  obtain ⟨t81, x81⟩ : ∃ v, t[81]? = some v := ⟨_, Array.getElem?_eq_getElem (by have := h.siz; omega)⟩
                  have hfe := frame_eq [(72, _), (73, _), (74, _), (75, _), (76, _), (77, _), (78, _), (79, _), (80, _), (81, _)] (h.siz.trans rfl) h.kp rfl ⟨h.p0 (hd 0), h.p1 (hd 1), h.p2 (hd 2), h.p3 (hd 3), h.p4 (hd 4), h.p5 (hd 5), h.p6 (hd 6), h.p7 (hd 7), x80, x81, trivial⟩
                  simp only [List.foldl_cons, List.foldl_nil, List.setIfInBounds_toArray, List.set_cons_succ, List.set_cons_zero] at hfe
                  have hbc := h.bel
                  subst hfe
                  have hres := h.res (hd 9)
                  clear h hdn hall hd
                  have hbc' := hbc
                  have hres' := hres
                  clear hbc hres
                  rw [← HWS.out] at hres'
                  have HRES := Lib.hid hres'
                  have HBC := Lib.hid (HBR0.out.trans hbc')
                  clear hres' hbc'
                  go_wp2_with fail
                  go_roundg (x.clitics.length - (k + 1))
                  case measure => omega
                  case rel => exact ⟨k + 1, by omega, rfl, by go_num, by rw [Lx.flat_take HK.out, ← List.append_assoc, ← HLN.out]; exact HRES.out, HBC.out⟩
              · have hke : k = x.clitics.length := by omega
                have hnI : ¬ (k : Int) < (x.clitics.length : Int) := by omega
                have HALL : Hid (Lib.IsBuilder 95 5 bb bb (Lib.byteCells (P2 ++ x.clitics.flatMap fun e => Lx.lineL (Lx.cliticL e))) wr) := Lib.hid (by have q := HIBR.out; rw [List.take_of_length_le (by omega)] at q; exact q)
                obtain ⟨P3, hP⟩ : ∃ P, P = (P2 ++ x.clitics.flatMap fun e => Lx.lineL (Lx.cliticL e)) := ⟨_, rfl⟩
                rw [← hP] at HALL
                have HP3 := Lib.hid hP
                have HPL3 : Hid (P3.length ≤ 40000) := Lib.hid (by rw [hP]; rw [List.length_append]; have h3 := HPL2.out; have h1 := Lx.flat_len (f := fun e => Lx.lineL (Lx.cliticL e)) (l := x.clitics) (fun a ha => Lx.clitic_len (Lx.Clitic.fine (HF.out.e2 a ha))); omega)
                obtain ⟨p0, p1, p2⟩ := lex_cells ((HBR.out.block w.heap.size hwb).trans HX2.out)
                clear hP
                have hbwr : bb ≤ wr.heap.size := by omega
                have HST := Lib.hid (Tryz.Builder_String_any bb bb P3 wr HALL.out hbwr)
                go_wp2_with fail
                refine HST.out.mono ?_
                rintro e9 w9 ⟨rfl, hb9⟩
                have HB9 := Lib.hid (HWR.out.trans (hb9.mono (Nat.le_of_lt hwb)))
                clear hb9
                go_wp2_with fail
                go_ret2
                exact ⟨⟨P3.toArray⟩, by rw [← HCV.out, hz]; rfl, by rw [HV.out, HP3.out, HP2.out, HP1.out]; unfold _root_.Lx.fmtL; rw [List.append_assoc], HB9.out⟩
  · have HV : Hid (Lx.formatV x = []) := Lib.hid (by unfold Lx.formatV; rw [if_neg fun e => hz (HCV.out.trans e)])
    go_wp2_with fail
    go_ret2
    exact ⟨⟨#[]⟩, by rw [HCV.out]; rfl, HV.out.symm, HB1.out⟩
end Go.Proofs.YtpmnpnlfgfleeaaGreatDoor
