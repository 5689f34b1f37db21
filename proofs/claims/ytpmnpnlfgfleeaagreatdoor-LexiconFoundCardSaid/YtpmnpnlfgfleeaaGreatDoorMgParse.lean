/- ParseGloss of the program. Made by gen_parse.py. -/
import Derived.Test.YtpmnpnlfgfleeaaGreatDoorMgFormX
import Derived.Test.YtpmnpnlfgfleeaaGreatDoorMgParseIdx
import Derived.Test.YtpmnpnlfgfleeaaGreatDoorMgShelfP
import Derived.Test.YtpmnpnlfgfleeaaGreatDoorMgGloss
import Derived.Test.YtpmnpnlfgfleeaaGreatDoorMgCheck
import Derived.Test.YtpmnpnlfgfleeaaGreatDoorMgGlossPlain
import Derived.Test.YtpmnpnlfgfleeaaGreatDoorMgSounds
import Derived.Test.YtpmnpnlfgfleeaaGreatDoorMgStem
import Derived.Test.YtpmnpnlfgfleeaaGreatDoorMgRegion4
import Derived.Test.YtpmnpnlfgfleeaaGreatDoorMgBegin
namespace Go.Proofs.YtpmnpnlfgfleeaaGreatDoor
open Go.RowKit

theorem Lx.notB_step {x : Lx.Lexicon} {s : ByteArray} {i : Nat} (h : Lx.NotB x s i) (hn : ∀ g, Lx.formV x g = 0 → Lx.glossV x g = s → g.entry ≠ (i : Int)) : Lx.NotB x s (i + 1) := fun g hg hs => by
  have := h g hg hs
  have := hn g hg hs
  omega
theorem split_head {sep s : ByteArray} : ∀ {k : Nat} {w0 : ByteArray} {l : List ByteArray}, Lib.splitB sep 0 k s = w0 :: l → w0.size ≤ s.size
  | 0, w0, l, h => by rw [Lib.splitB_zero] at h; cases h; exact Nat.le_refl _
  | k + 1, w0, l, h => by
    unfold Lib.splitB at h
    split at h
    · cases h; exact Nat.le_refl _
    · cases h; rw [ByteArray.size_extract]; omega
theorem words_of (s : ByteArray) : ∃ w0 l, Lib.splitB ⟨#[61]⟩ 0 (Lib.countB s ⟨#[61]⟩) s = w0 :: l ∧ Lib.countB s ⟨#[61]⟩ = l.length ∧ w0.size ≤ s.size ∧ Lib.split s.data.toList [61] = w0.data.toList :: l.map (·.data.toList) ∧ l.length ≤ s.size := by
  have hl := Lib.splitB_all ⟨#[61]⟩ (by decide) 0 _ s rfl
  have hd := Lib.splitB_data ⟨#[61]⟩ 0 (Lib.countB s ⟨#[61]⟩) s
  have hc := Lib.countB_le ⟨#[61]⟩ (by decide) s.size s (Nat.le_refl _)
  cases h : Lib.splitB ⟨#[61]⟩ 0 (Lib.countB s ⟨#[61]⟩) s with
  | nil => rw [h] at hl; simp at hl
  | cons w0 l =>
    rw [h] at hl hd
    simp only [List.length_cons] at hl
    exact ⟨w0, l, rfl, by omega, split_head h, hd.symm, by omega⟩
theorem cell_lt {w : World} {b o : Nat} {v : Value} (h : w.cell? ⟨b, o, none⟩ = some v) : b < w.heap.size := by
  refine Decidable.byContradiction fun hn => ?_
  have : w.heap[b]? = none := Array.getElem?_eq_none (by omega)
  simp [World.cell?, this] at h
structure PglR (T0 : Array Value) (W0 : World) (lx Fb NB n : Nat) (v : Value) (A2 : Option Addr) (n2 c2 : Nat) (fa fe : Value) (cells : List Value) (cval : Int) (B1 : Nat) (d : Array Bool) (t : Array Value) (wc : World) : Prop where
  bel : Below Fb W0 wc
  siz : t.size = 94
  kp : ∀ i, i ∉ ([68, 69, 70, 71, 72, 73, 74, 75, 76] : List Nat) → t[i]? = T0[i]?
  k2 : t[2]? = some (.pointer (some ⟨lx, 0, none⟩))
  k13 : t[13]? = some (.pointer (some ⟨Fb, 0, none⟩))
  k17 : t[17]? = some (.pointer (some ⟨NB, 0, none⟩))
  p0 : dn d 0 → t[68]? = some (.pointer (some ⟨Fb, 2, none⟩))
  p1 : dn d 1 → t[69]? = some (v)
  p2 : dn d 2 → t[70]? = some (.pointer (some ⟨lx, 2, none⟩))
  p3 : dn d 3 → t[71]? = some (.slice A2 n2 c2)
  p4 : dn d 4 → t[72]? = some (.func (.func 39) #[] #[.pointer (some ⟨NB, 0, none⟩)])
  p5 : dn d 5 → t[73]? = some (.int .i64 cval)
  p8 : dn d 8 → t[76]? = some (.pointer (some ⟨Fb, 2, none⟩))
  oth : ¬ dn d 7 → Below W0.heap.size W0 wc
  sl : dn d 6 → ¬ dn d 7 → ∃ g, t[74]? = some (.slice (some ⟨g, 0, none⟩) 1 1) ∧ RdS wc wc.heap.size 1 encInt (.slice (some ⟨g, 0, none⟩) 1 1) [cval]
  res : dn d 7 → ∃ u, (¬ dn d 9 → t[75]? = some u ∧ wc.heap[Fb]? = some (.cells #[fa, fe, v] 29 (0, 0))) ∧ (dn d 9 → wc.heap[Fb]? = some (.cells #[fa, fe, u] 29 (0, 0))) ∧ wc.ownsRow B1 3 1 u (n + 1) (cells ++ encInt cval)
  l71 : dn d 7 → dn d 1
  l73 : dn d 7 → dn d 3
  l75 : dn d 7 → dn d 5
  l76 : dn d 7 → dn d 6
  l97 : dn d 9 → dn d 7
  l65 : dn d 6 → dn d 5
  l53 : dn d 5 → dn d 3
def PglI (T0 : Array Value) (W0 : World) (lx Fb NB n : Nat) (v : Value) (A2 : Option Addr) (n2 c2 : Nat) (fa fe : Value) (cells : List Value) (cval : Int) (B1 : Nat) (d : Array Bool) (a : Act) (wc : World) : Prop := ∃ t : Array Value, a = ⟨t, []⟩ ∧ PglR T0 W0 lx Fb NB n v A2 n2 c2 fa fe cells cval B1 d t wc

set_option maxRecDepth 100000 in
set_option maxHeartbeats 16000000 in
theorem ParseGloss_any (vx : Value) (x : Lx.Lexicon) (s : ByteArray) (w : World) (hr : RdL w w.heap.size vx x) (hs : s.size ≤ 1000) (hm0 : ∃ m : Int, w.cell? ⟨0, 0, none⟩ = some (.int .i64 m)) :
    Calls Tryz.prog 14 #[vx, .string s] w (RetFG x s w) := by
  obtain ⟨m, hm⟩ := hm0
  have h0lt := cell_lt hm
  have HM : Hid (∀ W, Below w.heap.size w W → W.cell? ⟨0, 0, none⟩ = some (.int .i64 m)) := Lib.hid fun W hW => (hW.cell (p := ⟨0, 0, none⟩) h0lt).trans hm
  have HCK : Hid (∀ (W : World), Below w.heap.size w W → Calls Tryz.prog 33 #[vx] W (RetIB (Lx.checkV x) W)) := Lib.hid fun W hW => Check_any vx x W ((hr.below hW).more hW.size)
  have HGG : Hid (∀ (W : World), Below w.heap.size w W → ∀ (vf : Value) (f : Lx.Form), RdF W W.heap.size vf f → Calls Tryz.prog 13 #[vx, vf] W (RetSI (Lx.glossR x f) (Lx.formV x f) W)) := Lib.hid fun W hW vf f hf => Gloss_any vx vf x f W ((hr.below hW).more hW.size) hf
  obtain ⟨⟨v0, v1, v2, rfl, hr0, hr1, hr2⟩, -, -, -⟩ := hr
  have HRE := Lib.hid (fun (W : World) (hW : Below w.heap.size w W) => (hr1.below hW).more hW.size)
  have HRC := Lib.hid (fun (W : World) (hW : Below w.heap.size w W) => (hr2.below hW).more hW.size)
  obtain ⟨A0, c0, rfl, hl0, hm0, hc0⟩ := hr0
  obtain ⟨A1, c1, rfl, hl1, hm1, -⟩ := hr1
  obtain ⟨A2, c2, rfl, hl2, hm2, -⟩ := hr2
  have hn0 : x.entries.length ≤ 9223372036854775807 := by omega
  have hn1 : x.endings.length ≤ 9223372036854775807 := by omega
  have hn2 : x.clitics.length ≤ 9223372036854775807 := by omega
  have HC0 := Lib.hid hc0
  clear hl0 hm0 hl1 hm1 hl2 hm2 hc0 hm
  obtain ⟨w0, l, hws, hcn, hw0, hsp, hll⟩ := words_of s
  obtain ⟨hd, nm, has, hcut⟩ : ∃ (hd nm : ByteArray) (has : Bool), Lib.cut w0.data.toList [45] = (hd.data.toList, nm.data.toList, has) := ⟨⟨(Lib.cut w0.data.toList [45]).1.toArray⟩, ⟨(Lib.cut w0.data.toList [45]).2.1.toArray⟩, (Lib.cut w0.data.toList [45]).2.2, rfl⟩
  have HSPL : Hid (∀ W, Below w.heap.size w W → Calls Tryz.prog 34 #[.string s, .string ⟨#[61]⟩] W fun e w' => e = .returned (.slice (some ⟨W.heap.size, 0, none⟩) (l.length + 1) (l.length + 1)) ∧ w' = W.alloc (.cells ((w0 :: l).map Value.string).toArray 9)) := Lib.hid fun W hW => by
    have := Tryz.strings_Split s ⟨#[61]⟩ m W (by omega) (HM.out W hW) (by decide)
    rwa [hws, hcn] at this
  have HCUT : Hid (∀ W, Below w.heap.size w W → Calls Tryz.prog 35 #[.string w0, .string ⟨#[45]⟩] W fun e w' => e = .returned (.tuple #[.string hd, .string nm, .bool has]) ∧ ∃ n, w' = W.drewN n) := Lib.hid fun W hW => by
    have := Tryz.strings_Cut w0 ⟨#[45]⟩ m W (by omega) (HM.out W hW)
    have e : (⟨#[45]⟩ : ByteArray).data.toList = [45] := rfl
    rw [e, hcut] at this
    exact this
  have HSP := Lib.hid hsp
  have HCT := Lib.hid hcut
  clear hws hcn hw0 hsp hcut
  have CX : Hid (∀ (W : World), W.heap[w.heap.size]? = some (.cells #[.slice A0 x.entries.length c0, .slice A1 x.endings.length c1, .slice A2 x.clitics.length c2] 26 (0, 0)) →
      W.cell? ⟨w.heap.size, 0, none⟩ = some (.slice A0 x.entries.length c0) ∧ W.cell? ⟨w.heap.size, 1, none⟩ = some (.slice A1 x.endings.length c1) ∧ W.cell? ⟨w.heap.size, 2, none⟩ = some (.slice A2 x.clitics.length c2)) :=
    Lib.hid fun W h => ⟨by simp [World.cell?, h], by simp [World.cell?, h], by simp [World.cell?, h]⟩
  have hal : Below w.heap.size w ((w.alloc (.cells #[.slice A0 x.entries.length c0, .slice A1 x.endings.length c1, .slice A2 x.clitics.length c2] 26)).alloc (.cells #[.int .i64 0, .int .i64 0, .slice none 0 0] 29)) := ((Below.refl _ _).alloc (Nat.le_refl _) _).alloc (by simp) _
  generalize hcv : Lx.checkV x = cv at HCK
  have HCV := Lib.hid hcv
  clear hcv
  go_enter Tryz.func14, Tryz.ntmps14
  go_wp2_with fail
  refine (HCK.out _ hal).mono ?_
  rintro e1 w1 ⟨rfl, hb1⟩
  have hs1 : w.heap.size + 2 ≤ w1.heap.size := by have := hb1.size; simp at this; omega
  have HB1 := Lib.hid (hal.trans (hb1.mono (by simp; omega)))
  have HXw1 := Lib.hid ((hb1.block w.heap.size (by simp; omega)).trans (start_fst w (.cells #[.slice A0 x.entries.length c0, .slice A1 x.endings.length c1, .slice A2 x.clitics.length c2] 26) (.cells #[.int .i64 0, .int .i64 0, .slice none 0 0] 29)))
  have HRw1 := Lib.hid ((hb1.block (w.heap.size + 1) (by simp)).trans (start_res' w (.cells #[.slice A0 x.entries.length c0, .slice A1 x.endings.length c1, .slice A2 x.clitics.length c2] 26) (.cells #[.int .i64 0, .int .i64 0, .slice none 0 0] 29)))
  have HZR : Hid (∀ W, Below w1.heap.size w1 W → Below w.heap.size w (((W.setCell ⟨w.heap.size + 1, 0, none⟩ (.int .i64 0)).setCell ⟨w.heap.size + 1, 1, none⟩ (.int .i64 0)).setCell ⟨w.heap.size + 1, 2, none⟩ (.slice none 0 0))) :=
    Lib.hid fun W hW => (((HB1.out.trans (hW.mono HB1.out.size)).setCell (by simp) _).setCell (by simp) _).setCell (by simp) _
  clear hb1 hal
  by_cases hz : cv = 0
  · have hq : (cv == 0) = true := by simp [hz]
    have hq' : (cv != 0) = false := by simp [hz]
    have HC0' : Hid (Lx.checkV x = 0) := Lib.hid (HCV.out.trans hz)
    clear hz
    go_wp2_with fail
    refine (HSPL.out w1 HB1.out).mono ?_
    rintro e2 w2 ⟨rfl, rfl⟩
    obtain ⟨w2, hw2⟩ : ∃ w2, w2 = w1.alloc (.cells ((w0 :: l).map Value.string).toArray 9) := ⟨_, rfl⟩
    have hb12 : Below w1.heap.size w1 w2 := by rw [hw2]; exact (Below.refl _ _).alloc (Nat.le_refl _) _
    have hs2 : w1.heap.size < w2.heap.size := by rw [hw2]; simp
    have hw2h : w2.heap[w1.heap.size]? = some (.cells ((w0 :: l).map Value.string).toArray 9 (0, 0)) := by rw [hw2]; exact heap_alloc_new _ _
    have HWC : Hid (∀ W, Below w2.heap.size w2 W → ∀ (j : Nat) (u : ByteArray), (w0 :: l)[j]? = some u → W.cell? ⟨w1.heap.size, j, none⟩ = some (.string u)) := Lib.hid fun W hW j u hu => by
      have a := (hW.block w1.heap.size (by omega)).trans hw2h
      have hu2 : ((w0 :: l).map Value.string)[j]? = some (.string u) := by rw [List.getElem?_map, hu]; rfl
      simp only [World.cell?, a]
      simpa using hu2
    rw [← hw2]
    have HB12 := Lib.hid hb12
    have HB2 := Lib.hid (HB1.out.trans (hb12.mono HB1.out.size))
    have k0 := HWC.out w2 (Below.refl _ _) 0 w0 rfl
    clear hb12 hw2h hw2
    go_wp2_with fail
    refine (HCUT.out w2 HB2.out).mono ?_
    rintro e3 wd ⟨rfl, hdr⟩
    have hbd : Below w2.heap.size w2 wd := by obtain ⟨nd, rfl⟩ := hdr; exact below_drewN (Below.refl _ _) nd
    have hds : w2.heap.size ≤ wd.heap.size := hbd.size
    clear hdr
    obtain ⟨w3, hw3⟩ : ∃ w3, w3 = wd.alloc (.cells #[.string nm] 9) := ⟨_, rfl⟩
    have hb23 : Below w2.heap.size w2 w3 := by rw [hw3]; exact hbd.alloc hds _
    have hs3 : wd.heap.size < w3.heap.size := by rw [hw3]; simp
    have hw3h : w3.heap[wd.heap.size]? = some (.cells #[.string nm] 9 (0, 0)) := by rw [hw3]; exact heap_alloc_new _ _
    have HEB : Hid (∀ W, Below w3.heap.size w3 W → W.cell? ⟨wd.heap.size, 0, none⟩ = some (.string nm)) := Lib.hid fun W hW => by
      have a := (hW.block wd.heap.size (by omega)).trans hw3h
      simp [World.cell?, a]
    have HB23 := Lib.hid hb23
    have HB13 := Lib.hid (HB12.out.trans (hb23.mono HB12.out.size))
    have HB3 := Lib.hid (HB2.out.trans (hb23.mono HB2.out.size))
    have HW3 := Lib.hid hw3
    have HX3 := Lib.hid ((HB13.out.block w.heap.size (by omega)).trans HXw1.out)
    have HR3 := Lib.hid ((HB13.out.block (w.heap.size + 1) (by omega)).trans HRw1.out)
    obtain ⟨x0, x1, x2⟩ := CX.out w3 HX3.out
    clear hb23 hw3h hw3 k0 hbd
    go_upto_region 6 with fail
    rw [← HW3.out]
    go_wp2_with fail
    clear x0 x1 x2
    go_loopg [39] x.entries.length (fun g iv wr => ∃ k : Nat, k ≤ x.entries.length ∧ g = x.entries.length - k ∧ iv = .int .i64 k ∧ Below w3.heap.size w3 wr ∧ Lx.NotB x s k)
    case atStart => exact ⟨0, Nat.zero_le _, rfl, rfl, Below.refl _ _, Lx.notB_zero x s⟩
    case round =>
      rename World => wr
      obtain ⟨i, hi, rfl, rfl, hbr, hnb⟩ := hrel
      have HBR := Lib.hid hbr
      have HBRW := Lib.hid (HB3.out.trans (hbr.mono HB3.out.size))
      have HNB := Lib.hid hnb
      by_cases hlt : i < x.entries.length
      · have hltI : (i : Int) < (x.entries.length : Int) := by omega
        obtain ⟨b, off, rfl, hb, hcell⟩ := HC0.out (by omega)
        obtain ⟨e, he⟩ : ∃ e, x.entries[i]? = some e := ⟨_, List.getElem?_eq_getElem hlt⟩
        have f0 : wr.cell? ⟨b, off + i * 4, none⟩ = some (.string e.root) := (HBRW.out.cell hb).trans (hcell i e he 0 _ rfl)
        have f1 : wr.cell? ⟨b, off + i * 4 + 1, none⟩ = some (.int .i64 e.kind) := (HBRW.out.cell hb).trans (hcell i e he 1 _ rfl)
        have f2 : wr.cell? ⟨b, off + i * 4 + 2, none⟩ = some (.string e.cls) := (HBRW.out.cell hb).trans (hcell i e he 2 _ rfl)
        have f3 : wr.cell? ⟨b, off + i * 4 + 3, none⟩ = some (.int .i64 e.weight) := (HBRW.out.cell hb).trans (hcell i e he 3 _ rfl)
        have HE := Lib.hid he
        obtain ⟨wf, hwf⟩ : ∃ wf, wf = (wr.alloc (.cells #[.string e.root, .int .i64 e.kind, .string e.cls, .int .i64 e.weight] 57)).alloc (.cells #[.int .i64 (i : Int), .int .i64 (-1), .slice none 0 0] 29) := ⟨_, rfl⟩
        obtain ⟨Fb, hFb⟩ : ∃ Fb, Fb = wr.heap.size + 1 := ⟨_, rfl⟩
        have hsf : Fb < wf.heap.size ∧ wf.heap.size ≤ Fb + 1 := by rw [hwf, hFb]; simp
        obtain ⟨hsf, hsf2⟩ := hsf
        have hFr : wr.heap.size < Fb := by omega
        have hbf : Below wr.heap.size wr wf := by rw [hwf]; exact ((Below.refl _ _).alloc (Nat.le_refl _) _).alloc (by simp) _
        have hIh : wf.heap[wr.heap.size]? = some (.cells #[.string e.root, .int .i64 e.kind, .string e.cls, .int .i64 e.weight] 57 (0, 0)) := by rw [hwf]; exact start_fst wr _ _
        have hFh : wf.heap[Fb]? = some (.cells #[.int .i64 (i : Int), .int .i64 (-1), .slice none 0 0] 29 (0, 0)) := by rw [hwf, hFb]; exact start_res' wr _ _
        have HWF := Lib.hid hwf
        have HIH := Lib.hid hIh
        have HFH := Lib.hid hFh
        have HBF := Lib.hid (hbr.trans (hbf.mono hbr.size))
        have HBFW := Lib.hid (HBRW.out.trans (hbf.mono HBRW.out.size))
        have HBRF := Lib.hid hbf
        have hrs : w3.heap.size ≤ wr.heap.size := hbr.size
        have HFE := Lib.hid hFb
        clear hbr hnb he hcell hwf hbf hIh hFh hlt hFb
        go_upto_region 10 with fail
        rw [← HWF.out, ← HFE.out]
        clear f0 f1 f2 f3
        have HXf := Lib.hid ((HBF.out.block w.heap.size (by omega)).trans HX3.out)
        have HRF0 : Hid (RdF wf wf.heap.size (.agg #[.int .i64 (i : Int), .int .i64 (-1), .slice none 0 0]) ⟨(i : Int), -1, []⟩) := Lib.hid ⟨⟨_, rfl, none, 0, rfl, by simp, by simp, fun h => absurd h (by simp)⟩⟩
        obtain ⟨y0, y1, y2⟩ := CX.out wf HXf.out
        obtain ⟨f0, f1, f2, -, -, -⟩ := form_cells HFH.out
        obtain ⟨gb, hgb⟩ : ∃ gb, gb = Lx.glossR x ⟨(i : Int), -1, []⟩ := ⟨_, rfl⟩
        have HGB := Lib.hid hgb
        clear hgb
        go_wp2_with fail
        refine (HGG.out wf HBFW.out _ _ HRF0.out).mono ?_
        rw [← HGB.out]
        rintro e5 w5 ⟨rfl, hb5⟩
        have HB5 := Lib.hid (HBF.out.trans (hb5.mono HBF.out.size))
        have HBF5 := Lib.hid hb5
        have HX5 := Lib.hid ((HB5.out.block w.heap.size (by omega)).trans HX3.out)
        have HF5 := Lib.hid ((hb5.block Fb (by omega)).trans HFH.out)
        clear y0 y1 y2 f0 f1 f2 hb5
        by_cases heq : gb = hd
        · subst heq
          obtain ⟨y0, y1, y2⟩ := CX.out w5 HX5.out
          obtain ⟨f0, f1, f2, k0, k1, k2⟩ := form_cells HF5.out
          obtain ⟨ev, hev⟩ : ∃ ev : Int, ev = if has = true then idxOf (Lx.pE e.kind nm) x.endings else -1 := ⟨_, rfl⟩
          have HEV := Lib.hid hev
          clear hev
          go_upto_if 55 with fail
          go_cut [13] (fun t wc => t = .pointer (some ⟨Fb, 0, none⟩) ∧ Below Fb wf wc ∧ wc.heap[Fb]? = some (.cells #[.int .i64 (i : Int), .int .i64 ev, .slice none 0 0] 29 (0, 0)))
          case first =>
            cases has
            · have hev : ev = -1 := HEV.out
              subst hev
              go_wp2_with fail
              go_meet
              go_light
              exact ⟨rfl, HBF5.out.mono (by omega), HF5.out⟩
            · have hev : ev = idxOf (Lx.pE e.kind nm) x.endings := HEV.out
              have HB5W := Lib.hid (HB3.out.trans (HB5.out.mono HB3.out.size))
              have HIX : Hid (Calls Tryz.prog 36 #[.slice A1 x.endings.length c1, .func (.func 37) #[] #[.pointer (some ⟨wr.heap.size, 0, none⟩), .pointer (some ⟨wd.heap.size, 0, none⟩)]] w5 (RetIB ev w5)) := Lib.hid (by
                rw [hev]
                refine indexEnding_PG _ _ _ _ _ w5 (HRE.out w5 HB5W.out) (fun W y _ hW => ?_)
                have h5 := HBF5.out.trans (hW.mono HBF5.out.size)
                have h53 := HB5.out.trans (hW.mono HB5.out.size)
                refine ParseGloss1_any y e.kind nm wr.heap.size wd.heap.size W (by have := h5.size; omega) (by have := h53.size; omega) ?_ (HEB.out W h53)
                have a := (h5.block wr.heap.size (by omega)).trans HIH.out
                simp [World.cell?, a])
              clear hev
              go_wp2_with fail
              refine HIX.out.mono ?_
              rintro e6 w6 ⟨rfl, hb6⟩
              have hF6 := (hb6.block Fb (by have := HBF5.out.size; omega)).trans HF5.out
              have HF6 := Lib.hid hF6
              have HB6 := Lib.hid (HBF5.out.trans (hb6.mono HBF5.out.size))
              clear f0 f1 f2 k0 k1 k2 hb6
              obtain ⟨f0, f1, f2, k0, k1, k2⟩ := form_cells hF6
              clear hF6
              go_wp2_with fail
              go_meet
              go_light
              exact ⟨rfl, (HB6.out.mono (by omega)).setCell (by exact Nat.le_refl _) _, by simp [World.setCell, Array.getElem?_modify, HF6.out]⟩
          case rest =>
            rename World => wg
            obtain ⟨rfl, hbg, hfg⟩ := hcut
            have HBG := Lib.hid hbg
            have HFG := Lib.hid hfg
            clear y0 y1 y2 f0 f1 f2 k0 k1 k2
            go_upto_region 14 with fail
            go_cut [62, 63, 64] (fun t u v wc => (∃ ow : Nat, t = .slice (some ⟨w1.heap.size, ow, none⟩) l.length l.length ∧ (0 < l.length → ow = 1)) ∧ u = .int .i64 (l.length : Int) ∧ v = .int .i64 ((0 : Nat) : Int) ∧ wc = wg)
            case first =>
              by_cases hl0 : l.length = 0
              · have hl1 : (l.length : Int) = 0 := by omega
                go_wp2_with fail
                go_meet
                go_light
                exact ⟨⟨0, by rw [hl0], fun h => absurd h (by omega)⟩, by rw [hl0]; rfl, rfl, rfl⟩
              · have hl1 : 0 < l.length := by omega
                have hl2 : (0 : Int) < (l.length : Int) := by omega
                have hl3 : (1 : Int) ≤ (l.length : Int) + 1 := by omega
                have hl4 : l.length + 1 - 1 = l.length := by omega
                have hl5 : ¬ l.length + 1 = 1 := by omega
                go_wp2_with fail
                go_meet
                go_light
                exact ⟨⟨1, rfl, fun _ => rfl⟩, rfl, rfl, rfl⟩
            case rest =>
              obtain ⟨⟨ow, rfl, how⟩, rfl, rfl, hwc⟩ := hcut
              have hwc' := hwc.symm
              subst hwc'
              have hfs : wf.heap.size ≤ Fb + 1 := hsf2
              have hFg : Fb < wg.heap.size := (Array.getElem?_eq_some_iff.1 HFG.out).1
              go_wp2_with fail
              go_loopg [64] l.length (fun g jv wz => ∃ (k : Nat) (u : Value), k ≤ l.length ∧ g = l.length - k ∧ jv = .int .i64 k ∧ Below Fb wg wz ∧ wz.heap[Fb]? = some (.cells #[.int .i64 (i : Int), .int .i64 ev, u] 29 (0, 0)) ∧ wz.ownsRow (Fb + 1) 3 1 u k (((l.take k).map fun n => idxOf (Lx.pC n) x.clitics).flatMap encInt))
              case atStart => exact ⟨0, .slice none 0 0, Nat.zero_le _, rfl, rfl, Below.refl _ _, HFG.out, World.ownsRow_nil _ _ _ _⟩
              case round =>
                rename World => wz
                obtain ⟨k, u, hk, rfl, rfl, hbz, hfz, hoz⟩ := hrel
                have HBZ := Lib.hid (hbg.trans hbz)
                have HBZg := Lib.hid hbz
                have HBZW := Lib.hid (HBRW.out.trans ((HBRF.out.mono (by omega)).trans ((hbg.trans hbz).mono (by omega))))
                have HOZ := Lib.hid hoz
                have HFZ := Lib.hid hfz
                have hFz : Fb < wz.heap.size := (Array.getElem?_eq_some_iff.1 hfz).1
                have HXz := Lib.hid (((hbg.trans hbz).block w.heap.size (by omega)).trans ((HBF.out.block w.heap.size (by omega)).trans HX3.out))
                have HRz := Lib.hid (((hbg.trans hbz).block (w.heap.size + 1) (by omega)).trans ((HBF.out.block (w.heap.size + 1) (by omega)).trans HR3.out))
                obtain ⟨Av, cv', rfl⟩ := own_form hoz
                obtain ⟨y0, y1, y2⟩ := CX.out wz HXz.out
                clear hbz
                by_cases hlk : k < l.length
                · have hlkI : (k : Int) < (l.length : Int) := by omega
                  obtain rfl : ow = 1 := how (by omega)
                  obtain ⟨nk, hnk⟩ : ∃ nk, l[k]? = some nk := ⟨_, List.getElem?_eq_getElem hlk⟩
                  have hz2 : Below w2.heap.size w2 wz := HB23.out.trans ((HBF.out.mono (by omega)).trans (HBZ.out.mono (by omega)))
                  have q0 : wz.cell? ⟨w1.heap.size, 1 + k, none⟩ = some (.string nk) := HWC.out wz hz2 (1 + k) nk (by rw [Nat.add_comm, List.getElem?_cons_succ]; exact hnk)
                  obtain ⟨wn, hwn⟩ : ∃ wn, wn = wz.alloc (.cells #[.string nk] 9) := ⟨_, rfl⟩
                  have hbn : Below wz.heap.size wz wn := by rw [hwn]; exact (Below.refl _ _).alloc (Nat.le_refl _) _
                  have hns : wz.heap.size < wn.heap.size := by rw [hwn]; simp
                  have hnh : wn.heap[wz.heap.size]? = some (.cells #[.string nk] 9 (0, 0)) := by rw [hwn]; exact heap_alloc_new _ _
                  obtain ⟨cval, hcval⟩ : ∃ cval, cval = idxOf (Lx.pC nk) x.clitics := ⟨_, rfl⟩
                  obtain ⟨cells, hcells⟩ : ∃ cells, cells = ((l.take k).map fun n => idxOf (Lx.pC n) x.clitics).flatMap encInt := ⟨_, rfl⟩
                  have HNEXT : Hid (((l.take (k + 1)).map fun n => idxOf (Lx.pC n) x.clitics).flatMap encInt = cells ++ encInt cval) := Lib.hid (by
                    rw [hcells, hcval, List.take_add_one, hnk]
                    simp)
                  rw [← hcells] at hoz
                  have HKO : Hid (∀ W, Below wn.heap.size wn W → W.ownsRow (Fb + 1) 3 1 (.slice Av k cv') k cells) := Lib.hid fun W hW =>
                    hoz.kept (grown_of_below (row := none) (hbn.trans (hW.mono (Nat.le_of_lt hns)))) (by
                      cases hob : (Value.slice Av k cv').ownBlock
                      · exact .inl rfl
                      · exact .inr (by simp))
                  have HFN := Lib.hid ((hbn.block Fb hFz).trans hfz)
                  have HIX : Hid (∀ W, Below wn.heap.size wn W → Calls Tryz.prog 38 #[.slice A2 x.clitics.length c2, .func (.func 39) #[] #[.pointer (some ⟨wz.heap.size, 0, none⟩)]] W (RetIB cval W)) := Lib.hid fun W hW => by
                    rw [hcval]
                    refine indexClitic_ParseGloss2 _ _ _ _ W (HRC.out W (HBZW.out.trans ((hbn.trans (hW.mono (Nat.le_of_lt hns))).mono HBZW.out.size))) (fun W2 y _ hW2 => ?_)
                    have h5 := hW.trans (hW2.mono hW.size)
                    refine ParseGloss2_any y nk wz.heap.size W2 (by have := h5.size; omega) ?_
                    have a := (h5.block wz.heap.size hns).trans hnh
                    simp [World.cell?, a]
                  have CXN : Hid (∀ W, Below wn.heap.size wn W → W.cell? ⟨w.heap.size, 0, none⟩ = some (.slice (some ⟨b, off, none⟩) x.entries.length c0) ∧ W.cell? ⟨w.heap.size, 1, none⟩ = some (.slice A1 x.endings.length c1) ∧ W.cell? ⟨w.heap.size, 2, none⟩ = some (.slice A2 x.clitics.length c2)) := Lib.hid fun W hW =>
                    CX.out W (((hbn.trans (hW.mono (Nat.le_of_lt hns))).block w.heap.size (by omega)).trans HXz.out)
                  obtain ⟨ii, hii, hzi, hsi, hbi⟩ := info_parts info_int
                  have hFW : Fb ≤ wn.heap.size := by omega
                  have hFlt : Fb < wn.heap.size := by omega
                  have hFB1 : Fb < Fb + 1 := by omega
                  have hk1000 : k ≤ 1000 := by omega
                  have HWN := Lib.hid hwn
                  have HBN := Lib.hid hbn
                  clear hnk hz2 hwn hbn hnh hcval hcells hoz hfz
                  go_upto_region 17 with fail
                  rw [← HWN.out]
                  clear y0 y1 y2 q0
                  refine wp_region_inv2T (fun T0 => PglI T0 wn w.heap.size Fb wz.heap.size k (.slice Av k cv') A2 x.clitics.length c2 (.int .i64 (i : Int)) (.int .i64 ev) cells cval (Fb + 1)) (by kernel_rfl) (by kernel_rfl) ?g0p ?gstepp ?gendp
                  case g0p =>
                    have hno : ∀ j, ¬ dn (Array.replicate 10 false) j := by
                      intro j; unfold dn; by_cases hj : j < 10 <;> simp [Array.getD, hj]
                    have na : ∀ {j : Nat} {Z : Prop}, dn (Array.replicate 10 false) j → Z := fun hj => absurd hj (hno _)
                    exact ⟨_, rfl, { bel := (Below.refl _ _).drew, siz := rfl, kp := fun _ _ => rfl, k2 := rfl, k13 := rfl, k17 := rfl, p0 := na, p1 := na, p2 := na, p3 := na, p4 := na, p5 := na, p8 := na, oth := fun _ => (Below.refl _ _).drew, sl := fun hj => absurd hj (hno _), res := fun hj => absurd hj (hno _), l71 := fun hj => absurd hj (hno _), l73 := fun hj => absurd hj (hno _), l75 := fun hj => absurd hj (hno _), l76 := fun hj => absurd hj (hno _), l97 := fun hj => absurd hj (hno _), l65 := fun hj => absurd hj (hno _), l53 := fun hj => absurd hj (hno _) }⟩
                  case gstepp =>
                    intro T0 d a wc i hd hI hi
                    obtain ⟨hlt, hnd, hpre⟩ := mem_ready hi
                    have hd' : d.size = 10 := hd
                    have hin : i < 10 := hlt
                    clear hi hd hlt
                    obtain ⟨t, rfl, h⟩ := hI
                    have hcs : i = 0 ∨ i = 1 ∨ i = 2 ∨ i = 3 ∨ i = 4 ∨ i = 5 ∨ i = 6 ∨ i = 7 ∨ i = 8 ∨ i = 9 := by omega
                    rcases hcs with rfl | rfl | rfl | rfl | rfl | rfl | rfl | rfl | rfl | rfl
                    · have hi : 0 < d.size := by omega
                      have q13 := h.k13
                      refine wpOp_plain rfl rfl ?_
                      go_simp
                      exact ⟨_, rfl, { bel := h.bel, siz := (by simpa using h.siz), kp := rk h.kp, k2 := rs h.k2, k13 := rs h.k13, k17 := rs h.k17, oth := fun hk => h.oth (fun q => hk (dn_up q)), sl := fun hj hk => by obtain ⟨g, e1, e2⟩ := h.sl (dn_of hi hj (by decide)) (fun q => hk (dn_up q)); exact ⟨g, (set_other (by decide)).trans e1, e2⟩, res := fun hj => by obtain ⟨u, e1, e2, e3⟩ := h.res (dn_of hi hj (by decide)); exact ⟨u, fun hk => ⟨(set_other (by decide)).trans (e1 (fun q => hk (dn_up q))).1, (e1 (fun q => hk (dn_up q))).2⟩, fun h9 => e2 (dn_of hi h9 (by decide)), e3⟩, l71 := fun hj => dn_up (h.l71 (dn_of hi hj (by decide))), l73 := fun hj => dn_up (h.l73 (dn_of hi hj (by decide))), l75 := fun hj => dn_up (h.l75 (dn_of hi hj (by decide))), l76 := fun hj => dn_up (h.l76 (dn_of hi hj (by decide))), l97 := fun hj => dn_up (h.l97 (dn_of hi hj (by decide))), l65 := fun hj => dn_up (h.l65 (dn_of hi hj (by decide))), l53 := fun hj => dn_up (h.l53 (dn_of hi hj (by decide))), p0 := fun _ => set_same (by have := h.siz; omega), p1 := rp hi h.p1, p2 := rp hi h.p2, p3 := rp hi h.p3, p4 := rp hi h.p4, p5 := rp hi h.p5, p8 := rp hi h.p8 }⟩
                    · have hi : 1 < d.size := by omega
                      have e0 := h.p0 (hpre _ rfl ⟨0, .data⟩ (by simp) rfl)
                      have hnd' := not_dn hi hnd
                      have h7 : ¬ dn d 7 := fun q => hnd' (h.l71 q)
                      obtain ⟨s0, s1, s2, -, -, -⟩ := form_cells (((h.oth h7).block Fb hFlt).trans HFN.out)
                      refine wpOp_plain rfl rfl ?_
                      go_simp
                      exact ⟨_, rfl, { bel := h.bel, siz := (by simpa using h.siz), kp := rk h.kp, k2 := rs h.k2, k13 := rs h.k13, k17 := rs h.k17, oth := fun hk => h.oth (fun q => hk (dn_up q)), sl := fun hj hk => by obtain ⟨g, e1, e2⟩ := h.sl (dn_of hi hj (by decide)) (fun q => hk (dn_up q)); exact ⟨g, (set_other (by decide)).trans e1, e2⟩, res := fun hj => by obtain ⟨u, e1, e2, e3⟩ := h.res (dn_of hi hj (by decide)); exact ⟨u, fun hk => ⟨(set_other (by decide)).trans (e1 (fun q => hk (dn_up q))).1, (e1 (fun q => hk (dn_up q))).2⟩, fun h9 => e2 (dn_of hi h9 (by decide)), e3⟩, l71 := fun hj => dn_up (h.l71 (dn_of hi hj (by decide))), l73 := fun hj => dn_up (h.l73 (dn_of hi hj (by decide))), l75 := fun hj => dn_up (h.l75 (dn_of hi hj (by decide))), l76 := fun hj => dn_up (h.l76 (dn_of hi hj (by decide))), l97 := fun hj => dn_up (h.l97 (dn_of hi hj (by decide))), l65 := fun hj => dn_up (h.l65 (dn_of hi hj (by decide))), l53 := fun hj => dn_up (h.l53 (dn_of hi hj (by decide))), p0 := rp hi h.p0, p1 := fun _ => set_same (by have := h.siz; omega), p2 := rp hi h.p2, p3 := rp hi h.p3, p4 := rp hi h.p4, p5 := rp hi h.p5, p8 := rp hi h.p8 }⟩
                    · have hi : 2 < d.size := by omega
                      have q2 := h.k2
                      refine wpOp_plain rfl rfl ?_
                      go_simp
                      exact ⟨_, rfl, { bel := h.bel, siz := (by simpa using h.siz), kp := rk h.kp, k2 := rs h.k2, k13 := rs h.k13, k17 := rs h.k17, oth := fun hk => h.oth (fun q => hk (dn_up q)), sl := fun hj hk => by obtain ⟨g, e1, e2⟩ := h.sl (dn_of hi hj (by decide)) (fun q => hk (dn_up q)); exact ⟨g, (set_other (by decide)).trans e1, e2⟩, res := fun hj => by obtain ⟨u, e1, e2, e3⟩ := h.res (dn_of hi hj (by decide)); exact ⟨u, fun hk => ⟨(set_other (by decide)).trans (e1 (fun q => hk (dn_up q))).1, (e1 (fun q => hk (dn_up q))).2⟩, fun h9 => e2 (dn_of hi h9 (by decide)), e3⟩, l71 := fun hj => dn_up (h.l71 (dn_of hi hj (by decide))), l73 := fun hj => dn_up (h.l73 (dn_of hi hj (by decide))), l75 := fun hj => dn_up (h.l75 (dn_of hi hj (by decide))), l76 := fun hj => dn_up (h.l76 (dn_of hi hj (by decide))), l97 := fun hj => dn_up (h.l97 (dn_of hi hj (by decide))), l65 := fun hj => dn_up (h.l65 (dn_of hi hj (by decide))), l53 := fun hj => dn_up (h.l53 (dn_of hi hj (by decide))), p0 := rp hi h.p0, p1 := rp hi h.p1, p2 := fun _ => set_same (by have := h.siz; omega), p3 := rp hi h.p3, p4 := rp hi h.p4, p5 := rp hi h.p5, p8 := rp hi h.p8 }⟩
                    · have hi : 3 < d.size := by omega
                      have e2 := h.p2 (hpre _ rfl ⟨2, .data⟩ (by simp) rfl)
                      have hnd' := not_dn hi hnd
                      have h7 : ¬ dn d 7 := fun q => hnd' (h.l73 q)
                      obtain ⟨m0, m1, m2⟩ := CXN.out wc (h.oth h7)
                      refine wpOp_plain rfl rfl ?_
                      go_simp
                      exact ⟨_, rfl, { bel := h.bel, siz := (by simpa using h.siz), kp := rk h.kp, k2 := rs h.k2, k13 := rs h.k13, k17 := rs h.k17, oth := fun hk => h.oth (fun q => hk (dn_up q)), sl := fun hj hk => by obtain ⟨g, e1, e2⟩ := h.sl (dn_of hi hj (by decide)) (fun q => hk (dn_up q)); exact ⟨g, (set_other (by decide)).trans e1, e2⟩, res := fun hj => by obtain ⟨u, e1, e2, e3⟩ := h.res (dn_of hi hj (by decide)); exact ⟨u, fun hk => ⟨(set_other (by decide)).trans (e1 (fun q => hk (dn_up q))).1, (e1 (fun q => hk (dn_up q))).2⟩, fun h9 => e2 (dn_of hi h9 (by decide)), e3⟩, l71 := fun hj => dn_up (h.l71 (dn_of hi hj (by decide))), l73 := fun hj => dn_up (h.l73 (dn_of hi hj (by decide))), l75 := fun hj => dn_up (h.l75 (dn_of hi hj (by decide))), l76 := fun hj => dn_up (h.l76 (dn_of hi hj (by decide))), l97 := fun hj => dn_up (h.l97 (dn_of hi hj (by decide))), l65 := fun hj => dn_up (h.l65 (dn_of hi hj (by decide))), l53 := fun hj => dn_up (h.l53 (dn_of hi hj (by decide))), p0 := rp hi h.p0, p1 := rp hi h.p1, p2 := rp hi h.p2, p3 := fun _ => set_same (by have := h.siz; omega), p4 := rp hi h.p4, p5 := rp hi h.p5, p8 := rp hi h.p8 }⟩
                    · have hi : 4 < d.size := by omega
                      have q17 := h.k17
                      refine wpOp_plain rfl rfl ?_
                      go_simp
                      exact ⟨_, rfl, { bel := h.bel, siz := (by simpa using h.siz), kp := rk h.kp, k2 := rs h.k2, k13 := rs h.k13, k17 := rs h.k17, oth := fun hk => h.oth (fun q => hk (dn_up q)), sl := fun hj hk => by obtain ⟨g, e1, e2⟩ := h.sl (dn_of hi hj (by decide)) (fun q => hk (dn_up q)); exact ⟨g, (set_other (by decide)).trans e1, e2⟩, res := fun hj => by obtain ⟨u, e1, e2, e3⟩ := h.res (dn_of hi hj (by decide)); exact ⟨u, fun hk => ⟨(set_other (by decide)).trans (e1 (fun q => hk (dn_up q))).1, (e1 (fun q => hk (dn_up q))).2⟩, fun h9 => e2 (dn_of hi h9 (by decide)), e3⟩, l71 := fun hj => dn_up (h.l71 (dn_of hi hj (by decide))), l73 := fun hj => dn_up (h.l73 (dn_of hi hj (by decide))), l75 := fun hj => dn_up (h.l75 (dn_of hi hj (by decide))), l76 := fun hj => dn_up (h.l76 (dn_of hi hj (by decide))), l97 := fun hj => dn_up (h.l97 (dn_of hi hj (by decide))), l65 := fun hj => dn_up (h.l65 (dn_of hi hj (by decide))), l53 := fun hj => dn_up (h.l53 (dn_of hi hj (by decide))), p0 := rp hi h.p0, p1 := rp hi h.p1, p2 := rp hi h.p2, p3 := rp hi h.p3, p4 := fun _ => set_same (by have := h.siz; omega), p5 := rp hi h.p5, p8 := rp hi h.p8 }⟩
                    · have hi : 5 < d.size := by omega
                      have hnd' := not_dn hi hnd
                      have h7 : ¬ dn d 7 := fun q => hnd' (h.l75 q)
                      have d3 : dn d 3 := hpre _ rfl ⟨3, .data⟩ (by simp) rfl
                      have d4 : dn d 4 := hpre _ rfl ⟨4, .data⟩ (by simp) rfl
                      have e3 := h.p3 d3
                      have e4 := h.p4 d4
                      refine wpOp_plain rfl rfl ?_
                      go_simp
                      refine (HIX.out wc (h.oth h7)).mono ?_
                      rintro e1 w1 ⟨rfl, hb⟩
                      exact ⟨_, rfl, { bel := h.bel.trans (hb.mono (Nat.le_trans hFW (h.oth h7).size)), siz := (by simpa using h.siz), kp := rk h.kp, k2 := rs h.k2, k13 := rs h.k13, k17 := rs h.k17, oth := fun hk => (h.oth (fun q => hk (dn_up q))).trans (hb.mono (h.oth (fun q => hk (dn_up q))).size), sl := fun hj hk => by obtain ⟨g, e1, e2⟩ := h.sl (dn_of hi hj (by decide)) (fun q => hk (dn_up q)); exact ⟨g, (set_other (by decide)).trans e1, (e2.below hb).more hb.size⟩, res := fun hj => absurd (h.l75 (dn_of hi hj (by decide))) hnd', l71 := fun hj => dn_up (h.l71 (dn_of hi hj (by decide))), l73 := fun hj => dn_up (h.l73 (dn_of hi hj (by decide))), l75 := fun _ => dn_self hi, l76 := fun hj => dn_up (h.l76 (dn_of hi hj (by decide))), l97 := fun hj => dn_up (h.l97 (dn_of hi hj (by decide))), l65 := fun hj => dn_self hi, l53 := fun _ => dn_up d3, p0 := rp hi h.p0, p1 := rp hi h.p1, p2 := rp hi h.p2, p3 := rp hi h.p3, p4 := rp hi h.p4, p5 := fun _ => set_same (by have := h.siz; omega), p8 := rp hi h.p8 }⟩
                    · have hi : 6 < d.size := by omega
                      have hnd' := not_dn hi hnd
                      have h7 : ¬ dn d 7 := fun q => hnd' (h.l76 q)
                      have d5 : dn d 5 := hpre _ rfl ⟨5, .data⟩ (by simp) rfl
                      have e5 := h.p5 d5
                      have hb : Below wc.heap.size wc (wc.alloc (.cells #[.int .i64 cval] 3)) := (Below.refl _ _).alloc (Nat.le_refl _) _
                      refine wpOp_plain rfl rfl ?_
                      go_simp
                      exact ⟨_, rfl, { bel := h.bel.trans (hb.mono (Nat.le_trans hFW (h.oth h7).size)), siz := (by simpa using h.siz), kp := rk h.kp, k2 := rs h.k2, k13 := rs h.k13, k17 := rs h.k17, oth := fun hk => (h.oth (fun q => hk (dn_up q))).trans (hb.mono (h.oth (fun q => hk (dn_up q))).size), sl := fun _ _ => ⟨wc.heap.size, set_same (by have := h.siz; omega), rds_block (xs := [cval]) len_int (heap_alloc_new _ _) rfl (by simp) (Nat.le_refl 1) (by decide)⟩, res := fun hj => absurd (h.l76 (dn_of hi hj (by decide))) hnd', l71 := fun hj => dn_up (h.l71 (dn_of hi hj (by decide))), l73 := fun hj => dn_up (h.l73 (dn_of hi hj (by decide))), l75 := fun hj => dn_up (h.l75 (dn_of hi hj (by decide))), l76 := fun _ => dn_self hi, l97 := fun hj => dn_up (h.l97 (dn_of hi hj (by decide))), l65 := fun _ => dn_up d5, l53 := fun hj => dn_up (h.l53 (dn_of hi hj (by decide))), p0 := rp hi h.p0, p1 := rp hi h.p1, p2 := rp hi h.p2, p3 := rp hi h.p3, p4 := rp hi h.p4, p5 := rp hi h.p5, p8 := rp hi h.p8 }⟩
                    · have hi : 7 < d.size := by omega
                      have hnd' := not_dn hi hnd
                      have h7 := hnd'
                      have d1 : dn d 1 := hpre _ rfl ⟨1, .data⟩ (by simp) rfl
                      have d6 : dn d 6 := hpre _ rfl ⟨6, .data⟩ (by simp) rfl
                      have e1 := h.p1 d1
                      obtain ⟨g, e6, hr6⟩ := h.sl d6 h7
                      have hot := h.oth h7
                      have d5 : dn d 5 := h.l65 d6
                      have d3 : dn d 3 := h.l53 d5
                      have hown := HKO.out wc hot
                      refine wpOp_plain rfl rfl ?_
                      refine wp_append_rd (enc := encInt) (.tmp 69) (.tmp 74) _ rfl (Fb + 1) 3 ii _ 1 8 len_int one_int Tryz.underlying27 hii hzi hsi hbi rfl (by decide) (.slice Av k cv') k cells (eval_tmp e1) hown wc.heap.size (.slice (some ⟨g, 0, none⟩) 1 1) [cval] (eval_tmp e6) hr6 (by simp only [maxLen]; show k + 1 ≤ _; omega) (by show (k + 1) * 8 ≤ _; omega) (by have := hot.size; omega) ?_
                      intro v' w' hown' hg hat
                      have hFn : (Value.slice Av k cv').ownBlock ≠ some Fb := fun q => by have := (hown.lt _ q).1; omega
                      exact ⟨_, rfl, { bel := h.bel.grown hg (by have := hot.size; omega) (fun k hk => by have := (hown.lt k hk).1; omega), siz := (by simpa using h.siz), kp := rk h.kp, k2 := rs h.k2, k13 := rs h.k13, k17 := rs h.k17, oth := fun hk => absurd (dn_self hi) hk, sl := fun _ hk => absurd (dn_self hi) hk, res := fun _ => ⟨v', fun _ => ⟨set_same (by have := h.siz; show _ < t.size; omega), (hg.block Fb (by have := hot.size; omega) (fun q => hFn q.symm)).trans ((hot.block Fb hFlt).trans HFN.out)⟩, fun h9 => absurd (h.l97 (dn_of hi h9 (by decide))) hnd', by simpa using hown'⟩, l71 := fun _ => dn_up d1, l73 := fun _ => dn_up d3, l75 := fun _ => dn_up d5, l76 := fun _ => dn_up d6, l97 := fun hj => dn_up (h.l97 (dn_of hi hj (by decide))), l65 := fun hj => dn_up (h.l65 (dn_of hi hj (by decide))), l53 := fun hj => dn_up (h.l53 (dn_of hi hj (by decide))), p0 := rp hi h.p0, p1 := rp hi h.p1, p2 := rp hi h.p2, p3 := rp hi h.p3, p4 := rp hi h.p4, p5 := rp hi h.p5, p8 := rp hi h.p8 }⟩
                    · have hi : 8 < d.size := by omega
                      have q13 := h.k13
                      refine wpOp_plain rfl rfl ?_
                      go_simp
                      exact ⟨_, rfl, { bel := h.bel, siz := (by simpa using h.siz), kp := rk h.kp, k2 := rs h.k2, k13 := rs h.k13, k17 := rs h.k17, oth := fun hk => h.oth (fun q => hk (dn_up q)), sl := fun hj hk => by obtain ⟨g, e1, e2⟩ := h.sl (dn_of hi hj (by decide)) (fun q => hk (dn_up q)); exact ⟨g, (set_other (by decide)).trans e1, e2⟩, res := fun hj => by obtain ⟨u, e1, e2, e3⟩ := h.res (dn_of hi hj (by decide)); exact ⟨u, fun hk => ⟨(set_other (by decide)).trans (e1 (fun q => hk (dn_up q))).1, (e1 (fun q => hk (dn_up q))).2⟩, fun h9 => e2 (dn_of hi h9 (by decide)), e3⟩, l71 := fun hj => dn_up (h.l71 (dn_of hi hj (by decide))), l73 := fun hj => dn_up (h.l73 (dn_of hi hj (by decide))), l75 := fun hj => dn_up (h.l75 (dn_of hi hj (by decide))), l76 := fun hj => dn_up (h.l76 (dn_of hi hj (by decide))), l97 := fun hj => dn_up (h.l97 (dn_of hi hj (by decide))), l65 := fun hj => dn_up (h.l65 (dn_of hi hj (by decide))), l53 := fun hj => dn_up (h.l53 (dn_of hi hj (by decide))), p0 := rp hi h.p0, p1 := rp hi h.p1, p2 := rp hi h.p2, p3 := rp hi h.p3, p4 := rp hi h.p4, p5 := rp hi h.p5, p8 := fun _ => set_same (by have := h.siz; omega) }⟩
                    · have hi : 9 < d.size := by omega
                      have hnd' := not_dn hi hnd
                      have d7 : dn d 7 := hpre _ rfl ⟨7, .data⟩ (by simp) rfl
                      have d8 : dn d 8 := hpre _ rfl ⟨8, .data⟩ (by simp) rfl
                      have e8 := h.p8 d8
                      obtain ⟨u, q1, q2, q3⟩ := h.res d7
                      obtain ⟨q4, q5⟩ := q1 hnd'
                      obtain ⟨s0, s1, s2, z0, z1, z2⟩ := form_cells q5
                      obtain ⟨Au, cu, rfl⟩ := own_form q3
                      refine wpOp_plain rfl rfl ?_
                      go_simp
                      exact ⟨_, rfl, { bel := h.bel.setCell (by exact Nat.le_refl _) _, siz := h.siz, kp := h.kp, k2 := h.k2, k13 := h.k13, k17 := h.k17, oth := fun hk => absurd (dn_up d7) hk, sl := fun _ hk => absurd (dn_up d7) hk, res := fun _ => ⟨_, fun hk => absurd (dn_self hi) hk, fun _ => by simp [World.setCell, Array.getElem?_modify, q5], ownsRow_setCell_below q3 (by exact hFB1) _⟩, l71 := fun hj => dn_up (h.l71 (dn_of hi hj (by decide))), l73 := fun hj => dn_up (h.l73 (dn_of hi hj (by decide))), l75 := fun hj => dn_up (h.l75 (dn_of hi hj (by decide))), l76 := fun hj => dn_up (h.l76 (dn_of hi hj (by decide))), l97 := fun _ => dn_up d7, l65 := fun hj => dn_up (h.l65 (dn_of hi hj (by decide))), l53 := fun hj => dn_up (h.l53 (dn_of hi hj (by decide))), p0 := rn hi h.p0, p1 := rn hi h.p1, p2 := rn hi h.p2, p3 := rn hi h.p3, p4 := rn hi h.p4, p5 := rn hi h.p5, p8 := rn hi h.p8 }⟩
                  case gendp =>
                    intro d a wc hd hI hall
                    obtain ⟨t, rfl, h⟩ := hI
                    have hdn : ∀ j, j < 10 → dn d j := fun j hj => dn_all hd hall hj
                    have hd : ∀ j, (_ : j < 10 := by decide) → dn d j := fun j hj => hdn j hj
                    obtain ⟨t74, x74⟩ : ∃ v, t[74]? = some v := ⟨_, Array.getElem?_eq_getElem (by have := h.siz; omega)⟩
                    obtain ⟨t75, x75⟩ : ∃ v, t[75]? = some v := ⟨_, Array.getElem?_eq_getElem (by have := h.siz; omega)⟩
                    have hfe := frame_eq [(68, _), (69, _), (70, _), (71, _), (72, _), (73, _), (74, _), (75, _), (76, _)] (h.siz.trans rfl) h.kp rfl ⟨h.p0 (hd 0), h.p1 (hd 1), h.p2 (hd 2), h.p3 (hd 3), h.p4 (hd 4), h.p5 (hd 5), x74, x75, h.p8 (hd 8), trivial⟩
                    simp only [List.foldl_cons, List.foldl_nil, List.setIfInBounds_toArray, List.set_cons_succ, List.set_cons_zero] at hfe
                    have hbc := h.bel
                    subst hfe
                    have hres := h.res (hd 7)
                    have h9d := hd 9
                    clear h hdn hall
                    have hbc' := hbc
                    obtain ⟨u, -, hfin, hown9⟩ := hres
                    have hfin := hfin h9d
                    obtain ⟨Au, cu, rfl⟩ := own_form hown9
                    have HB9 := Lib.hid (HBZg.out.trans ((HBN.out.mono (Nat.le_of_lt hFz)).trans hbc'))
                    have HFI := Lib.hid hfin
                    have HOW : Hid (wc.ownsRow (Fb + 1) 3 1 (.slice Au (k + 1) cu) (k + 1) (((l.take (k + 1)).map fun n => idxOf (Lx.pC n) x.clitics).flatMap encInt)) := Lib.hid (by rw [HNEXT.out]; exact hown9)
                    clear hbc hbc' hfin hown9
                    go_wp2_with fail
                    go_roundg (l.length - (k + 1))
                    case measure => omega
                    case rel => exact ⟨k + 1, _, by omega, rfl, by go_num, HB9.out, HFI.out, HOW.out⟩
                · obtain rfl : k = l.length := by omega
                  have htk : l.take l.length = l := List.take_length
                  rw [htk] at hoz
                  obtain ⟨fV, hfV⟩ : ∃ fV : Lx.Form, fV = ⟨(i : Int), ev, l.map fun n => idxOf (Lx.pC n) x.clitics⟩ := ⟨_, rfl⟩
                  have hfp : fV = Lx.progF x i e.kind has nm l := by rw [hfV, HEV.out]; rfl
                  have hrx : RdX wz (fun b => Fb + 1 ≤ b ∧ b < wz.heap.size) 1 encInt (.slice Av l.length cv') fV.clitics := by
                    have q := rdx_of_own (xs := l.map fun n => idxOf (Lx.pC n) x.clitics) len_int (by rw [List.length_map]; exact hoz)
                    rw [hfV]
                    exact q
                  have HRX := Lib.hid hrx
                  have HRF : Hid (RdF wz wz.heap.size (.agg #[.int .i64 (i : Int), .int .i64 ev, .slice Av l.length cv']) fV) := Lib.hid (by
                    rw [hfV] at hrx ⊢
                    exact ⟨⟨_, by simp, hrx.to fun b hb => hb.2⟩⟩)
                  have HFV := Lib.hid hfV
                  have HFP := Lib.hid hfp
                  have hlkI : ¬ ((l.length : Nat) : Int) < (l.length : Int) := by omega
                  obtain ⟨f0, f1, f2, -, -, -⟩ := form_cells hfz
                  obtain ⟨gt, hgt⟩ : ∃ gt, gt = Lx.glossR x fV := ⟨_, rfl⟩
                  obtain ⟨en, hen⟩ : ∃ en, en = Lx.formV x fV := ⟨_, rfl⟩
                  have HGT := Lib.hid hgt
                  have HEN := Lib.hid hen
                  have HPF : Hid (∀ g, Lx.formV x g = 0 → Lx.glossV x g = s → g.entry = (i : Int) → fV = g) := Lib.hid fun g hg hgs hge => by
                    rw [hfp]; exact (Lx.progF_eq hg hgs hge HE.out HSP.out HCT.out).2
                  clear hfV hfp hrx hgt hen hoz hfz htk hlk
                  go_wp2_with fail
                  refine (HGG.out wz HBZW.out _ fV HRF.out).mono ?_
                  rw [← HGT.out, ← HEN.out]
                  rintro e9 w9 ⟨rfl, hb9⟩
                  have HBZ9 := Lib.hid hb9
                  have HB39 := Lib.hid ((HBF.out.trans ((HBZ.out.mono (by omega)).trans (hb9.mono (by omega)))))
                  clear f0 f1 f2 y0 y1 y2 hb9
                  by_cases hen : en = 0
                  · by_cases hgt : gt = s
                    · have HVAL : Hid (Lx.formV x fV = 0) := Lib.hid (HEN.out.symm.trans hen)
                      have HRET : Hid (Lx.ReadG x s fV 0) := Lib.hid (Lx.read_form HVAL.out (by rw [← hgt, HGT.out, Lx.glossR_ok HVAL.out]))
                      have HF9 := Lib.hid ((HBZ9.out.block Fb hFz).trans HFZ.out)
                      have HR9 := Lib.hid ((HBZ9.out.block (w.heap.size + 1) (by omega)).trans HRz.out)
                      obtain ⟨f0, f1, f2, -, -, -⟩ := form_cells HF9.out
                      obtain ⟨r0, r1, r2, z0, z1, z2⟩ := form_cells HR9.out
                      have HBN : Hid (Below w.heap.size w (((w9.setCell ⟨w.heap.size + 1, 0, none⟩ (.int .i64 (i : Int))).setCell ⟨w.heap.size + 1, 1, none⟩ (.int .i64 ev)).setCell ⟨w.heap.size + 1, 2, none⟩ (.slice Av l.length cv'))) :=
                        Lib.hid ((((HB3.out.trans (HB39.out.mono HB3.out.size)).setCell (by simp) _).setCell (by simp) _).setCell (by simp) _)
                      have HXN : Hid (FormIn w fV (((w9.setCell ⟨w.heap.size + 1, 0, none⟩ (.int .i64 (i : Int))).setCell ⟨w.heap.size + 1, 1, none⟩ (.int .i64 ev)).setCell ⟨w.heap.size + 1, 2, none⟩ (.slice Av l.length cv')) (.agg #[.int .i64 (i : Int), .int .i64 ev, .slice Av l.length cv'])) := Lib.hid ⟨_, by rw [HFV.out], HRX.out.keep fun b hb => ⟨⟨by simp [World.setCell]; have := HBZ9.out.size; omega, by omega⟩, by
                        have h1 : ¬ w.heap.size + 1 = b := by omega
                        have h2 := HBZ9.out.block b hb.2
                        simp [World.setCell, Array.getElem?_modify, h1, h2]⟩⟩
                      subst hen hgt
                      go_wp2_with fail
                      exact bodyPost_ret (v := .tuple #[.agg #[.int .i64 (i : Int), .int .i64 ev, .slice Av l.length cv'], .int .i64 0]) (by simp [results, Tryz.results14, go_sem, r0, r1, r2]) rfl ⟨_, fV, 0, rfl, HRET.out, HXN.out, HBN.out⟩
                    · have HNX := Lib.hid (Lx.notB_step HNB.out (fun g hg hgs hge => hgt (by
                        have h1 := HPF.out g hg hgs hge
                        rw [HGT.out, h1, Lx.glossR_ok hg, hgs])))
                      have hq1 := Lx.toList_ne hgt
                      subst hen
                      go_wp2_with fail
                      go_roundg (x.entries.length - (i + 1))
                      case measure => omega
                      case rel => exact ⟨i + 1, by omega, rfl, by go_num, HB39.out, HNX.out⟩
                  · have HNX := Lib.hid (Lx.notB_step HNB.out (fun g hg hgs hge => hen (by
                      have h1 := HPF.out g hg hgs hge
                      rw [HEN.out, h1, hg])))
                    have hq1 : (en == 0) = false := by simp [hen]
                    go_wp2_with fail
                    go_roundg (x.entries.length - (i + 1))
                    case measure => omega
                    case rel => exact ⟨i + 1, by omega, rfl, by go_num, HB39.out, HNX.out⟩
        · have HNX := Lib.hid (Lx.notB_step HNB.out (fun g hg hgs hge => heq (by
            have h1 := Lx.progF_eq hg hgs hge HE.out HSP.out HCT.out
            rw [HGB.out, Lx.bare_gloss HC0'.out HE.out]
            exact h1.1.symm)))
          have hq1 := Lx.toList_ne heq
          go_wp2_with fail
          go_roundg (x.entries.length - (i + 1))
          case measure => omega
          case rel => exact ⟨i + 1, by omega, rfl, by go_num, HB5.out, HNX.out⟩
      · have hltI : ¬ (i : Int) < (x.entries.length : Int) := by omega
        have HNF := Lib.hid (Lx.notB_end hnb (by omega))
        have HRr := Lib.hid ((hbr.block (w.heap.size + 1) (by omega)).trans HR3.out)
        obtain ⟨r0, r1, r2, z0, z1, z2⟩ := form_cells HRr.out
        have HB9 := Lib.hid (HZR.out wr (HB13.out.trans (hbr.mono HB13.out.size)))
        clear hbr hnb hlt
        go_wp2_with fail
        refine bodyPost_ret (v := .tuple #[.agg #[.int .i64 0, .int .i64 0, .slice none 0 0], .int .i64 4]) (by simp [results, Tryz.results14, go_sem, r0, r1, r2]) rfl ⟨_, ⟨0, 0, []⟩, 4, rfl, Lx.read_none HC0'.out HNF.out, zero_in _ _, HB9.out⟩
  · have hq : (cv == 0) = false := by simp [hz]
    have hq' : (cv != 0) = true := by simp [hz]
    have HF : Hid (Lx.checkV x ≠ 0) := Lib.hid (by rw [HCV.out]; exact hz)
    obtain ⟨r0, r1, r2, z0, z1, z2⟩ := form_cells HRw1.out
    have HB9 := Lib.hid (HZR.out w1 (Below.refl _ _))
    clear hz
    go_wp2_with fail
    refine bodyPost_ret (v := .tuple #[.agg #[.int .i64 0, .int .i64 0, .slice none 0 0], .int .i64 cv]) (by simp [results, Tryz.results14, go_sem, r0, r1, r2]) rfl ⟨_, ⟨0, 0, []⟩, cv, rfl, ?_, zero_in _ _, HB9.out⟩
    have := Lx.read_bad (s := s) HF.out
    rwa [HCV.out] at this
end Go.Proofs.YtpmnpnlfgfleeaaGreatDoor
