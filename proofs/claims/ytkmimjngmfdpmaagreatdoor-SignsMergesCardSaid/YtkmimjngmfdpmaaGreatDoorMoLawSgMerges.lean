/- ostraconref01.Merge. Made by gen_r1merge.py. SignsMerges: the law's walk. Made by gen_sglaw15.py. -/
import Derived.Test.YtkmimjngmfdpmaaGreatDoorMoSgGMerge
import Derived.Test.YtkmimjngmfdpmaaGreatDoorMoSgRTidy
import Derived.Test.YtkmimjngmfdpmaaGreatDoorMoTrimPlain
import Derived.Test.YtkmimjngmfdpmaaGreatDoorMoSgSame
import Derived.Test.YtkmimjngmfdpmaaGreatDoorMoShelfF
import Derived.Test.YtkmimjngmfdpmaaGreatDoorMoSgWorks
namespace Go.Proofs.YtkmimjngmfdpmaaGreatDoor
open Go Go.RowKit

/-- one sign in a row of its own -/
theorem own_one (w : World) (s : Sg.Sign) (A : Option Addr) (c : Nat) {B : Nat} (hB : B ≤ w.heap.size) (h : RdX w (· < B) 4 encValue (.slice A s.values.length c) s.values) :
    OwnG KSign 67 (w.alloc (.cells #[.string s.code, .int .i64 s.wide, .int .i64 s.high, .bool s.even, .slice A s.values.length c] 67)) 0 (.slice (some ⟨w.heap.size, 0, none⟩) 1 1) [s] := by
  refine ⟨_, World.ownsRow_lit (base := 0) (size := 5) w #[.string s.code, .int .i64 s.wide, .int .i64 s.high, .bool s.even, .slice A s.values.length c] 1 (Nat.zero_le _) (by decide) rfl, ?_⟩
  have h0 := grows.cons (K := KSign) (w := w.alloc (.cells #[.string s.code, .int .i64 s.wide, .int .i64 s.high, .bool s.even, .slice A s.values.length c] 67)) (ok := fun b => b < (w.alloc (.cells #[.string s.code, .int .i64 s.wide, .int .i64 s.high, .bool s.even, .slice A s.values.length c] 67)).heap.size ∧ (Value.slice (some ⟨w.heap.size, 0, none⟩) 1 1).ownBlock ≠ some b ∧ 0 ≤ b) (cs := [.string s.code, .int .i64 s.wide, .int .i64 s.high, .bool s.even, .slice A s.values.length c]) (a := s) ⟨_, rfl, h.keep fun j hj => ⟨⟨by simp; omega, fun e => ?_, Nat.zero_le _⟩, ?_⟩⟩ .nil
  · simpa using h0
  · have e' : w.heap.size = j := by simpa [Value.ownBlock] using e
    omega
  · exact ((Below.refl w.heap.size w).alloc (Nat.le_refl _) _).block j (by omega)
theorem rdg_own {w : World} {e : TypeId} {v : Value} {ss : List Sg.Sign} (h : OwnG KSign e w 0 v ss) : RdG KSign w (· < w.heap.size) v ss := h.rd.keep fun _ hb => ⟨hb.1, rfl⟩
structure RmaR (T0 : Array Value) (W0 : World) (xb yb : Nat) (pa : Int) (A0 : Option Addr) (na c0 bk off nb d0 k : Nat) (cd : ByteArray) (ix : Int) (q : Bool) (d : Array Bool) (t : Array Value) (wc : World) : Prop where
  bel : Below W0.heap.size W0 wc
  siz : t.size = 131
  kp : ∀ i, i ∉ ([98, 99, 100, 101, 102, 103, 104, 105, 106] : List Nat) → t[i]? = T0[i]?
  k2 : t[2]? = some (.pointer (some ⟨xb, 0, none⟩))
  k3 : t[3]? = some (.pointer (some ⟨yb, 0, none⟩))
  k13 : t[13]? = some (.int .i64 (k : Nat))
  p0 : dn d 0 → t[98]? = some (.agg #[.int .i64 pa, .slice A0 na c0])
  p1 : dn d 1 → t[99]? = some (.pointer (some ⟨yb, 1, none⟩))
  p2 : dn d 2 → t[100]? = some (.slice (some ⟨bk, off, none⟩) nb d0)
  p3 : dn d 3 → t[101]? = some (.int .i64 (k : Nat))
  p4 : dn d 4 → t[102]? = some (.pointer (some ⟨bk, off + k * 5, none⟩))
  p5 : dn d 5 → t[103]? = some (.pointer (some ⟨bk, off + k * 5, none⟩))
  p6 : dn d 6 → t[104]? = some (.string cd)
  p7 : dn d 7 → t[105]? = some (.int .i64 ix)
  p8 : dn d 8 → t[106]? = some (.bool q)
def RmaI (T0 : Array Value) (W0 : World) (xb yb : Nat) (pa : Int) (A0 : Option Addr) (na c0 bk off nb d0 k : Nat) (cd : ByteArray) (ix : Int) (q : Bool) (d : Array Bool) (a : Act) (wc : World) : Prop := ∃ t : Array Value, a = ⟨t, []⟩ ∧ RmaR T0 W0 xb yb pa A0 na c0 bk off nb d0 k cd ix q d t wc
set_option maxRecDepth 100000 in
set_option maxHeartbeats 16000000 in
theorem r1Merge_any (va vb : Value) (a b : Sg.SList) (w : World) (hr : RdSL w w.heap.size va a) (hr' : RdSL w w.heap.size vb b) : Calls Tryz.prog 49 #[va, vb] w (RetListE (Sg.mergeL a b) (Sg.mergeE a b) w) := by
  have HRA := Lib.hid hr
  have HRB := Lib.hid hr'
  obtain ⟨⟨ua, rfl, hga⟩, hfa⟩ := hr
  obtain ⟨⟨ub, rfl, hgb⟩, hfb⟩ := hr'
  obtain ⟨A0, c0, rfl⟩ := hga.form
  obtain ⟨B0, d0, rfl⟩ := hgb.form
  have HGA := Lib.hid hga
  have HGB := Lib.hid hgb
  have HFA := Lib.hid hfa
  have HFB := Lib.hid hfb
  obtain ⟨i1, hi1, hz1, hs1', hb1'⟩ := info_parts info_Sign
  obtain ⟨iv, hiv, hzv, hsv, hbv⟩ := info_parts info_Value
  obtain ⟨V, hV⟩ : ∃ V, V = (w.alloc (.cells #[.int .i64 a.periods, .slice A0 a.signs.length c0] 24)).alloc (.cells #[.int .i64 b.periods, .slice B0 b.signs.length d0] 24) := ⟨_, rfl⟩
  obtain ⟨W1, hW1⟩ : ∃ W1, W1 = V.alloc (.cells #[.int .i64 0, .slice none 0 0] 24) := ⟨_, rfl⟩
  have hVs : V.heap.size = w.heap.size + 2 := by rw [hV]; simp
  have hbV : Below w.heap.size w V := by rw [hV]; exact ((Below.refl _ _).alloc (Nat.le_refl _) _).alloc (by simp) _
  have hbV1 : Below V.heap.size V W1 := by rw [hW1]; exact (Below.refl _ _).alloc (Nat.le_refl _) _
  have hb1 : Below w.heap.size w W1 := hbV.trans (hbV1.mono (by omega))
  have hX : W1.heap[w.heap.size]? = some (.cells #[.int .i64 a.periods, .slice A0 a.signs.length c0] 24 (0, 0)) := (hbV1.block _ (by omega)).trans (by rw [hV]; exact start_fst w _ _)
  have hY : W1.heap[w.heap.size + 1]? = some (.cells #[.int .i64 b.periods, .slice B0 b.signs.length d0] 24 (0, 0)) := (hbV1.block _ (by omega)).trans (by rw [hV]; exact start_res' w _ _)
  have hR : W1.heap[w.heap.size + 2]? = some (.cells #[.int .i64 0, .slice none 0 0] 24 (0, 0)) := by
    have := heap_alloc_new V (.cells #[.int .i64 0, .slice none 0 0] 24)
    rw [← hW1, hVs] at this
    exact this
  have hs1 : w.heap.size + 2 < W1.heap.size := (Array.getElem?_eq_some_iff.1 hR).1
  have CX : Hid (∀ W, Below W1.heap.size W1 W → W.cell? ⟨w.heap.size, 0, none⟩ = some (.int .i64 a.periods) ∧ W.cell? ⟨w.heap.size, 1, none⟩ = some (.slice A0 a.signs.length c0)) := Lib.hid fun W hW => by
    have := cells2 ((hW.block _ (by omega)).trans hX)
    exact ⟨this.1, this.2.1⟩
  have CY : Hid (∀ W, Below W1.heap.size W1 W → W.cell? ⟨w.heap.size + 1, 0, none⟩ = some (.int .i64 b.periods) ∧ W.cell? ⟨w.heap.size + 1, 1, none⟩ = some (.slice B0 b.signs.length d0)) := Lib.hid fun W hW => by
    have := cells2 ((hW.block _ (by omega)).trans hY)
    exact ⟨this.1, this.2.1⟩
  have CR : Hid (∀ W, Below W1.heap.size W1 W → W.cell? ⟨w.heap.size + 2, 0, none⟩ = some (.int .i64 0) ∧ W.cell? ⟨w.heap.size + 2, 1, none⟩ = some (.slice none 0 0) ∧ W.frozen? ⟨w.heap.size + 2, 0, none⟩ = false ∧ W.frozen? ⟨w.heap.size + 2, 1, none⟩ = false) := Lib.hid fun W hW => cells2 ((hW.block _ (by omega)).trans hR)
  have HB1 := Lib.hid hb1
  have HW1 : Hid (W1 = ((w.alloc (.cells #[.int .i64 a.periods, .slice A0 a.signs.length c0] 24)).alloc (.cells #[.int .i64 b.periods, .slice B0 b.signs.length d0] 24)).alloc (.cells #[.int .i64 0, .slice none 0 0] 24)) := Lib.hid (by rw [hW1, hV])
  obtain ⟨x0, x1⟩ := CX.out W1 (Below.refl _ _)
  have HCA := Lib.hid (r1Check_any _ a W1 (HRA.out.on hb1))
  have HCB := Lib.hid fun (W : World) (hW : Below w.heap.size w W) => r1Check_any _ b W (HRB.out.on hW)
  obtain ⟨e1, he1⟩ : ∃ e1, e1 = Sg.checkV a := ⟨_, rfl⟩
  obtain ⟨e2, he2⟩ : ∃ e2, e2 = Sg.checkV b := ⟨_, rfl⟩
  have HE1 := Lib.hid he1
  have HE2 := Lib.hid he2
  rw [← he1] at HCA
  rw [← he2] at HCB
  obtain ⟨rl, hrl⟩ : ∃ r, r = Sg.mergeL a b := ⟨_, rfl⟩
  obtain ⟨re, hre⟩ : ∃ r, r = Sg.mergeE a b := ⟨_, rfl⟩
  have HRE : Hid (Sg.mergeE a b = re ∧ Sg.mergeL a b = rl) := Lib.hid ⟨hre.symm, hrl.symm⟩
  rw [← hrl, ← hre]
  clear hga hgb hfa hfb hW1 hV hVs hbV hbV1 hb1 hX hY hR he1 he2 hrl hre
  go_enter Tryz.func49, Tryz.ntmps49
  go_upto_region 1 with fail
  rw [← HW1.out]
  go_wp2_with fail
  refine HCA.out.mono ?_
  rintro e w2 ⟨rfl, hb2⟩
  have HB2 := Lib.hid (HB1.out.trans (hb2.mono (by omega)))
  have H2 := Lib.hid hb2
  clear hb2 x0 x1
  by_cases h0 : e1 = 0
  case neg =>
    have HN : Hid (re = e1 ∧ rl = Sg.noL) := Lib.hid (by
      have := Sg.merge_ca (a := a) (b := b) (by rw [← HE1.out]; exact h0)
      rw [HRE.out.1, HRE.out.2, ← HE1.out] at this
      exact this)
    obtain ⟨c0', c1', z0', z1'⟩ := CR.out w2 H2.out
    go_wp2_with fail
    refine bodyPost_ret (v := .tuple #[.agg #[.int .i64 0, .slice none 0 0], .int .i64 e1]) (by simp [results, Tryz.results49, go_sem, c0', c1']) rfl ?_
    exact RetListE.zero HN.out.2 HN.out.1 ((Below.setCell HB2.out (by show w.heap.size ≤ w.heap.size + 2; omega) _).setCell (by show w.heap.size ≤ w.heap.size + 2; omega) _)
  subst h0
  have HLA : Hid (Sg.checkV a = 0) := Lib.hid HE1.out.symm
  obtain ⟨y0, y1⟩ := CY.out w2 H2.out
  go_wp2_with fail
  refine (HCB.out w2 HB2.out).mono ?_
  rintro e w2b ⟨rfl, hb2⟩
  have HB2b := Lib.hid (HB2.out.trans (hb2.mono HB2.out.size))
  have H2b := Lib.hid (H2.out.trans (hb2.mono H2.out.size))
  clear hb2 y0 y1
  by_cases h0 : e2 = 0
  case neg =>
    have HN : Hid (re = e2 ∧ rl = Sg.noL) := Lib.hid (by
      have := Sg.merge_cb (a := a) (b := b) HLA.out (by rw [← HE2.out]; exact h0)
      rw [HRE.out.1, HRE.out.2, ← HE2.out] at this
      exact this)
    obtain ⟨c0', c1', z0', z1'⟩ := CR.out w2b H2b.out
    go_wp2_with fail
    refine bodyPost_ret (v := .tuple #[.agg #[.int .i64 0, .slice none 0 0], .int .i64 e2]) (by simp [results, Tryz.results49, go_sem, c0', c1']) rfl ?_
    exact RetListE.zero HN.out.2 HN.out.1 ((Below.setCell HB2b.out (by show w.heap.size ≤ w.heap.size + 2; omega) _).setCell (by show w.heap.size ≤ w.heap.size + 2; omega) _)
  subst h0
  have HLB : Hid (Sg.checkV b = 0) := Lib.hid HE2.out.symm
  have HVa := Lib.hid (Sg.fine_vals HLA.out)
  have HVb := Lib.hid (Sg.fine_vals HLB.out)
  have HUA := Lib.hid (Sg.uniq_of HLA.out)
  have HUB := Lib.hid (Sg.uniq_of HLB.out)
  have hal : a.signs.length ≤ 200 := (Sg.check_sign HLA.out).2.1
  have hbl : b.signs.length ≤ 200 := (Sg.check_sign HLB.out).2.1
  obtain ⟨x0, x1⟩ := CX.out w2b H2b.out
  obtain ⟨y0, y1⟩ := CY.out w2b H2b.out
  obtain ⟨pm, hpm⟩ : ∃ p, p = max a.periods b.periods := ⟨_, rfl⟩
  obtain ⟨w3, hw3⟩ : ∃ w3, w3 = w2b.alloc (.cells #[.int .i64 pm, .slice none 0 0] 24) := ⟨_, rfl⟩
  obtain ⟨ob, hob⟩ : ∃ ob, ob = w2b.heap.size := ⟨_, rfl⟩
  have hb3 : Below w2b.heap.size w2b w3 := by rw [hw3]; exact (Below.refl _ _).alloc (Nat.le_refl _) _
  have hz3 : w3.heap[ob]? = some (.cells #[.int .i64 pm, .slice none 0 0] 24 (0, 0)) := by rw [hw3, hob]; exact heap_alloc_new _ _
  have hobl : W1.heap.size ≤ ob := by have := H2b.out.size; omega
  have hobw : w.heap.size + 2 < ob := by omega
  have HB3 := Lib.hid (HB2b.out.trans (hb3.mono HB2b.out.size))
  have H3 := Lib.hid (H2b.out.trans (hb3.mono H2b.out.size))
  have HZ3 := Lib.hid hz3
  have HW3 : Hid (w3 = w2b.alloc (.cells #[.int .i64 (max a.periods b.periods), .slice none 0 0] 24)) := Lib.hid (by rw [hw3, hpm])
  have HPM := Lib.hid hpm
  have HOB := Lib.hid hob
  clear hb3 hz3 hw3 hob hpm
  go_upto_region 8 with fail
  rw [← HW3.out, ← HOB.out]
  clear x0 x1 y0 y1
  obtain ⟨x0, x1⟩ := CX.out w3 H3.out
  go_wp2_with fail
  clear x0 x1
  clear iv hiv hzv hsv hbv
  go_loopg [8] a.signs.length (fun g i wr => ∃ (k : Nat) (vv : Value), k ≤ a.signs.length ∧ g = a.signs.length - k ∧ i = .int .i64 (k : Nat) ∧ Below ob w3 wr ∧ wr.heap[ob]? = some (.cells #[.int .i64 pm, vv] 24 (0, 0)) ∧ OwnG KSign 67 wr (ob + 1) vv ((a.signs.take k).map fun s => Sg.tidyS (Sg.joinS b.signs s)) ∧ (a.signs.take k).any (Sg.clashS b.signs) = false)
  case atStart => exact ⟨0, .slice none 0 0, Nat.zero_le _, rfl, rfl, Below.refl _ _, HZ3.out, OwnG.nil _ _ _, by simp⟩
  case round =>
    obtain ⟨k, vv, hk, rfl, rfl, hbel, hz, hown, hcl⟩ := hrel
    obtain ⟨n, hn⟩ : ∃ n, n = ((a.signs.take k).map fun s => Sg.tidyS (Sg.joinS b.signs s)).length := ⟨_, rfl⟩
    obtain ⟨Av, cv, rfl⟩ : ∃ A c, vv = .slice A n c := by rw [hn]; exact hown.form
    have hlt3 : ob < wr.heap.size := (Array.getElem?_eq_some_iff.1 hz).1
    have HBW := Lib.hid hbel
    have HZ := Lib.hid hz
    have HOK := Lib.hid hown
    have HNX := Lib.hid hn
    have HWR : Hid (Below w.heap.size w wr) := Lib.hid (HB3.out.trans (hbel.mono (by omega)))
    have H1R : Hid (Below W1.heap.size W1 wr) := Lib.hid (H3.out.trans (hbel.mono hobl))
    have hn4 : n ≤ 400 := by rw [hn, List.length_map, List.length_take]; omega
    have HCL := Lib.hid hcl
    obtain ⟨-, x1⟩ := CX.out wr H1R.out
    clear hbel hz hown hn hcl
    by_cases hlt : k < a.signs.length
    · obtain ⟨bk, off, rfl, hb, hcell⟩ := HGA.out.five (by omega)
      obtain ⟨s, hs⟩ : ∃ s, a.signs[k]? = some s := ⟨_, List.getElem?_eq_getElem hlt⟩
      obtain ⟨uv, hrd, g0, g1, g2, g3, g4⟩ := hcell k s hs
      have f0 := (HWR.out.cell (p := ⟨bk, off + k * 5, none⟩) hb).trans g0
      have f1 := (HWR.out.cell (p := ⟨bk, off + k * 5 + 1, none⟩) hb).trans g1
      have f2 := (HWR.out.cell (p := ⟨bk, off + k * 5 + 2, none⟩) hb).trans g2
      have f3 := (HWR.out.cell (p := ⟨bk, off + k * 5 + 3, none⟩) hb).trans g3
      have f4 := (HWR.out.cell (p := ⟨bk, off + k * 5 + 4, none⟩) hb).trans g4
      obtain ⟨A2, c2, rfl, hvc, hvm⟩ := rds_form hrd.rds
      have HRX := Lib.hid hrd
      have hvl := HVa.out s (List.mem_of_getElem? hs)
      have HVL := Lib.hid hvl
      obtain ⟨wS, hwS⟩ : ∃ wS, wS = wr.alloc (.cells #[.string s.code, .int .i64 s.wide, .int .i64 s.high, .bool s.even, .slice A2 s.values.length c2] 67) := ⟨_, rfl⟩
      obtain ⟨sb, hsbe⟩ : ∃ sb, sb = wr.heap.size := ⟨_, rfl⟩
      have hbS : Below wr.heap.size wr wS := by rw [hwS]; exact (Below.refl _ _).alloc (Nat.le_refl _) _
      have hsb : wS.heap[sb]? = some (.cells #[.string s.code, .int .i64 s.wide, .int .i64 s.high, .bool s.even, .slice A2 s.values.length c2] 67 (0, 0)) := by rw [hwS, hsbe]; exact heap_alloc_new _ _
      have hsbl : sb < wS.heap.size := by rw [hwS, hsbe]; simp
      have hsbr : wr.heap.size ≤ sb := by omega
      have HBRS := Lib.hid hbS
      have HSB := Lib.hid hsb
      have HWS := Lib.hid hwS
      have HSBE := Lib.hid hsbe
      have HS := Lib.hid hs
      have hkI : (0 : Int) ≤ (k : Int) := by omega
      have hkJ : (k : Int) < (a.signs.length : Int) := by omega
      clear hcell hs g0 g1 g2 g3 g4 hrd hwS hbS hsb hsbe hvl
      go_upto_region 12 with fail
      rw [← HWS.out, ← HSBE.out]
      clear f0 f1 f2 f3 f4
      clear x1
      have v0 : wS.cell? ⟨sb, 0, none⟩ = some (.string s.code) := by have := HSB.out; simp [World.cell?, this]
      have v1 : wS.cell? ⟨sb, 1, none⟩ = some (.int .i64 s.wide) := by have := HSB.out; simp [World.cell?, this]
      have v2 : wS.cell? ⟨sb, 2, none⟩ = some (.int .i64 s.high) := by have := HSB.out; simp [World.cell?, this]
      have v3 : wS.cell? ⟨sb, 3, none⟩ = some (.bool s.even) := by have := HSB.out; simp [World.cell?, this]
      have v4 : wS.cell? ⟨sb, 4, none⟩ = some (.slice A2 s.values.length c2) := by have := HSB.out; simp [World.cell?, this]
      obtain ⟨wB, hwB⟩ : ∃ wB, wB = wS.alloc (.cells #[.string s.code, .int .i64 s.wide, .int .i64 s.high, .bool s.even, .slice A2 s.values.length c2] 67) := ⟨_, rfl⟩
      obtain ⟨bb, hbbe⟩ : ∃ bb, bb = wS.heap.size := ⟨_, rfl⟩
      have hbB : Below wS.heap.size wS wB := by rw [hwB]; exact (Below.refl _ _).alloc (Nat.le_refl _) _
      have HRXS : Hid (RdX wS (· < w.heap.size) 4 encValue (.slice A2 s.values.length c2) s.values) := Lib.hid (HRX.out.keep fun j hj => ⟨hj, (HBRS.out.block j (by have := HWR.out.size; omega)).trans (HWR.out.block j hj)⟩)
      have HOB1 : Hid (OwnG KSign 67 wB 0 (.slice (some ⟨bb, 0, none⟩) 1 1) [s]) := Lib.hid (by rw [hwB, hbbe]; exact own_one wS s A2 c2 (by have := HWR.out.size; have := HBRS.out.size; omega) HRXS.out)
      have hbbB : bb < wB.heap.size := by rw [hwB, hbbe]; simp
      have HBRB : Hid (Below wr.heap.size wr wB) := Lib.hid (HBRS.out.trans (hbB.mono HBRS.out.size))
      have HSBB := Lib.hid ((hbB.block sb hsbl).trans HSB.out)
      have HWB := Lib.hid hwB
      have HBBE := Lib.hid hbbe
      have hsbb : sb < bb := by omega
      have H1B : Hid (Below W1.heap.size W1 wB) := Lib.hid (H1R.out.trans (HBRB.out.mono H1R.out.size))
      have HWWB : Hid (Below w.heap.size w wB) := Lib.hid (HWR.out.trans (HBRB.out.mono HWR.out.size))
      clear hwB hbbe hbB
      go_upto_region 13 with fail
      rw [← HWB.out, ← HBBE.out]
      clear v0 v1 v2 v3 v4
      obtain ⟨y0, y1⟩ := CY.out wB H1B.out
      have t0 : wB.cell? ⟨sb, 0, none⟩ = some (.string s.code) := by have := HSBB.out; simp [World.cell?, this]
      have HIX := Lib.hid (r1index_any _ b s.code wB (HRB.out.on HWWB.out))
      obtain ⟨ix, hix⟩ : ∃ ix, ix = idxOf (Sg.codeIs s.code) b.signs := ⟨_, rfl⟩
      have HIE := Lib.hid hix
      rw [← hix] at HIX
      clear hix
      go_wp2_with fail
      refine HIX.out.mono ?_
      rintro e w7 ⟨rfl, hb7⟩
      have HBR7 : Hid (Below wr.heap.size wr w7) := Lib.hid (HBRB.out.trans (hb7.mono HBRB.out.size))
      have HSB7 := Lib.hid ((hb7.block sb (by omega)).trans HSBB.out)
      have HOB7 := Lib.hid (HOB1.out.kept hb7)
      have hsb7 : sb < w7.heap.size := by have := hb7.size; omega
      have hbb7 : bb < w7.heap.size := by have := hb7.size; omega
      have H17 : Hid (Below W1.heap.size W1 w7) := Lib.hid (H1R.out.trans (HBR7.out.mono H1R.out.size))
      have HW7 : Hid (Below w.heap.size w w7) := Lib.hid (HWR.out.trans (HBR7.out.mono HWR.out.size))
      clear hb7 y0 y1 t0 HIX hsbl
      have hcd : Sg.codeIs s.code = Sg.isC s.code := by funext t; rfl
      obtain ⟨T, hT⟩ : ∃ T, T = Sg.tidiedV (s.values ++ Sg.valsAt b.signs s.code) := ⟨_, rfl⟩
      have HT := Lib.hid hT
      cases hh : Sg.hasC b.signs s.code
      · have hix : ix = -1 := by rw [HIE.out, hcd]; exact idx_not hh
        have HCS := Lib.hid (Sg.clashS_no hh)
        have HTT : Hid (Calls Tryz.prog 85 #[.slice (some ⟨bb, 0, none⟩) 1 1] w7 (RetVals T w7)) := Lib.hid (by
          have h1 := r1tidied_any _ [s] w7 (rdg_own HOB7.out) (by simp) (fun t ht => by
            rw [List.mem_singleton] at ht
            subst ht
            exact HVL.out)
          have e1 : Sg.valsS [s] = s.values ++ Sg.valsAt b.signs s.code := by rw [Sg.vals_not hh]; simp [Sg.valsS]
          rwa [e1, ← hT] at h1)
        clear hh hcd HIE hT
        subst hix
        go_wp2_with fail
        refine HTT.out.mono ?_
        rintro e w8 ⟨v8, rfl, hown8, hb8⟩
        obtain ⟨A8, c8, rfl⟩ := own_form hown8
        have hsb8 := (hb8.block sb hsb7).trans HSB7.out
        have s4 : w8.cell? ⟨sb, 4, none⟩ = some (.slice A2 s.values.length c2) := by simp [World.cell?, hsb8]
        have y4 : w8.frozen? ⟨sb, 4, none⟩ = false := by simp [World.frozen?, hsb8]
        obtain ⟨w9, hw9⟩ : ∃ w9, w9 = w8.setCell ⟨sb, 4, none⟩ (.slice A8 T.length c8) := ⟨_, rfl⟩
        have hsb9 : w9.heap[sb]? = some (.cells #[.string s.code, .int .i64 s.wide, .int .i64 s.high, .bool s.even, .slice A8 T.length c8] 67 (0, 0)) := by rw [hw9]; exact gset hsb8 _
        have hsz9 : w9.heap.size = w8.heap.size := by rw [hw9]; simp [World.setCell]
        have hb9 : Below wr.heap.size wr w9 := by rw [hw9]; exact (HBR7.out.trans (hb8.mono HBR7.out.size)).setCell (by exact hsbr) _
        have HO9 : Hid (w9.ownsRow w7.heap.size 60 4 (.slice A8 T.length c8) T.length (T.flatMap encValue)) := Lib.hid (by rw [hw9]; exact own_side hown8 hsb7 _)
        have hz9 := (hb9.block ob hlt3).trans HZ.out
        have HZ9 := Lib.hid hz9
        have HW9 := Lib.hid hw9
        have HB9 := Lib.hid hb9
        have HSZ : Hid (w7.heap.size ≤ w9.heap.size ∧ wr.heap.size ≤ w7.heap.size) := Lib.hid ⟨by have := hb8.size; omega, HBR7.out.size⟩
        clear hown8 hb8 hsb8 hw9 hb9 hsz9
        go_upto_region 20 with fail
        rw [← HW9.out]
        clear s4 y4
        have v0 : w9.cell? ⟨sb, 0, none⟩ = some (.string s.code) := by simp [World.cell?, hsb9]
        have v1 : w9.cell? ⟨sb, 1, none⟩ = some (.int .i64 s.wide) := by simp [World.cell?, hsb9]
        have v2 : w9.cell? ⟨sb, 2, none⟩ = some (.int .i64 s.high) := by simp [World.cell?, hsb9]
        have v3 : w9.cell? ⟨sb, 3, none⟩ = some (.bool s.even) := by simp [World.cell?, hsb9]
        have v4 : w9.cell? ⟨sb, 4, none⟩ = some (.slice A8 T.length c8) := by simp [World.cell?, hsb9]
        have c1 : w9.cell? ⟨ob, 1, none⟩ = some (.slice Av n cv) := by simp [World.cell?, hz9]
        have HOQ : Hid (OwnG KSign 67 (w9.alloc (.cells #[.string s.code, .int .i64 s.wide, .int .i64 s.high, .bool s.even, .slice A8 T.length c8] 67)) (ob + 1) (.slice Av n cv) ((a.signs.take k).map fun s => Sg.tidyS (Sg.joinS b.signs s))) := Lib.hid (HOK.out.kept (HB9.out.trans ((Below.refl _ _).alloc (by have := HB9.out.size; omega) _)))
        obtain ⟨cells, hown3, hgr3⟩ := HOQ.out
        rw [← HNX.out] at hown3
        have HGR := Lib.hid hgr3
        have HOS := Lib.hid hown3
        have HRD := Lib.hid (rd_one_sign w9 (s.code, s.wide, s.high, s.even, (A8, T.length, c8)))
        have hk1 : n + 1 ≤ maxLen := by simp only [maxLen]; omega
        have hk2 : (n + 1) * 64 ≤ 140737488355328 := by omega
        have hbase : ob + 1 ≤ (w9.alloc (.cells #[.string s.code, .int .i64 s.wide, .int .i64 s.high, .bool s.even, .slice A8 T.length c8] 67)).heap.size := by have := HSZ.out; simp; omega
        clear hsb9 hz9 hgr3 hown3
        go_wp2_with (at_builtin; go_must (refine wpList_append_rd (enc := encS) rfl (.tmp 86) (.tmp 88) _ rfl (ob + 1) 67 i1 _ 5 64 len_S one_S Tryz.underlying22 hi1 hz1 hs1' hb1' rfl (by decide) (.slice Av n cv) n cells rfl HOS.out _ (.slice (some ⟨w9.heap.size, 0, none⟩) 1 1) [(s.code, s.wide, s.high, s.even, (A8, T.length, c8))] rfl HRD.out hk1 hk2 hbase ?_))
        intro v5 w5 hown5 hg5 hat5
        obtain ⟨A5, c5, hv5⟩ := own_form hown5
        have hv5' : v5 = .slice A5 (n + 1) c5 := hv5
        clear hv5
        subst hv5'
        have hz5 : w5.heap[ob]? = some (.cells #[.int .i64 pm, .slice Av n cv] 24 (0, 0)) := ((hg5.block ob (by omega) (fun e => by have := (HOS.out.lt _ e.symm).1; omega)).trans (((Below.refl w9.heap.size w9).alloc (Nat.le_refl _) _).block ob (by have := HSZ.out; omega))).trans HZ9.out
        have hb5 : Below ob w3 w5 := ((HBW.out.trans (HB9.out.mono (by omega))).alloc (by have := HSZ.out; omega) _).grown hg5 (by omega) (fun x hx => by have := (HOS.out.lt x hx).1; omega)
        have HON : Hid (OwnG KSign 67 w5 (ob + 1) (.slice A5 (n + 1) c5) (((a.signs.take k).map fun s => Sg.tidyS (Sg.joinS b.signs s)) ++ [⟨s.code, s.wide, s.high, s.even, T⟩])) := Lib.hid (by
          refine OwnG.snoc HGR.out (cs := encS (s.code, s.wide, s.high, s.even, (A8, T.length, c8))) ⟨.slice A8 T.length c8, rfl, ?_⟩ (by rw [← HNX.out]; exact hown5) hg5 ?_
          · refine (rdx_of_own len_value HO9.out).keep fun j hj => ⟨⟨by simp; omega, fun e => ?_, by have := HSZ.out; omega⟩, ?_⟩
            · have := (HOK.out.lt j e).2
              have := HSZ.out
              omega
            · exact ((Below.refl w9.heap.size w9).alloc (Nat.le_refl _) _).block j (by omega)
          · rcases hat5 with h | h
            · exact .inl h
            · exact .inr ⟨_, h, by simp⟩)
        have c1 : w5.cell? ⟨ob, 1, none⟩ = some (.slice Av n cv) := by simp [World.cell?, hz5]
        have z1 : w5.frozen? ⟨ob, 1, none⟩ = false := by simp [World.frozen?, hz5]
        obtain ⟨w6, hw6⟩ : ∃ w6, w6 = w5.setCell ⟨ob, 1, none⟩ (.slice A5 (n + 1) c5) := ⟨_, rfl⟩
        have HZ6 : Hid (w6.heap[ob]? = some (.cells #[.int .i64 pm, .slice A5 (n + 1) c5] 24 (0, 0))) := Lib.hid (by rw [hw6]; exact gset hz5 _)
        have HB6 : Hid (Below ob w3 w6) := Lib.hid (by rw [hw6]; exact hb5.setCell (Nat.le_refl _) _)
        have HO6 : Hid (OwnG KSign 67 w6 (ob + 1) (.slice A5 (n + 1) c5) (((a.signs.take k).map fun s => Sg.tidyS (Sg.joinS b.signs s)) ++ [⟨s.code, s.wide, s.high, s.even, T⟩])) := Lib.hid (by rw [hw6]; exact HON.out.aside (grown_set _ _ _) (by intro x hx; cases hx; show ob < _; omega))
        have HW6 := Lib.hid hw6
        clear hown5 hg5 hat5 hz5 hb5 hw6 v0 v1 v2 v3 v4
        go_upto_region 10 with fail
        rw [← HW6.out]
        clear c1 z1
        have HNE : Hid (((a.signs.take k).map fun s => Sg.tidyS (Sg.joinS b.signs s)) ++ [⟨s.code, s.wide, s.high, s.even, T⟩] = (a.signs.take (k + 1)).map fun s => Sg.tidyS (Sg.joinS b.signs s)) := Lib.hid (by
          rw [List.take_add_one, HS.out, HT.out, List.map_append]
          rfl)
        go_wp2_with fail
        go_roundg (a.signs.length - (k + 1))
        case measure => omega
        case rel => exact ⟨k + 1, .slice A5 (n + 1) c5, by omega, rfl, by go_num, HB6.out, HZ6.out, by rw [← HNE.out]; exact HO6.out, Sg.any_next HS.out HCL.out HCS.out⟩
      · obtain ⟨i, t, hti, hpt, hixi⟩ := idx_at (p := Sg.isC s.code) (xs := b.signs) hh
        have hct : t.code = s.code := by simpa [Sg.isC] using hpt
        have hix : ix = (i : Int) := by rw [HIE.out, hcd]; exact hixi
        have hil : i < b.signs.length := (List.getElem?_eq_some_iff.1 hti).1
        obtain ⟨bk2, off2, rfl, hb2, hcell⟩ := HGB.out.five (by omega)
        obtain ⟨ut, hrt, g0, g1, g2, g3, g4⟩ := hcell i t hti
        have f0 := (HW7.out.cell (p := ⟨bk2, off2 + i * 5, none⟩) hb2).trans g0
        have f1 := (HW7.out.cell (p := ⟨bk2, off2 + i * 5 + 1, none⟩) hb2).trans g1
        have f2 := (HW7.out.cell (p := ⟨bk2, off2 + i * 5 + 2, none⟩) hb2).trans g2
        have f3 := (HW7.out.cell (p := ⟨bk2, off2 + i * 5 + 3, none⟩) hb2).trans g3
        have f4 := (HW7.out.cell (p := ⟨bk2, off2 + i * 5 + 4, none⟩) hb2).trans g4
        obtain ⟨A3, c3, rfl, hvc3, hvm3⟩ := rds_form hrt.rds
        have HRT := Lib.hid hrt
        have HVT := Lib.hid (HVb.out t (List.mem_of_getElem? hti))
        have HTI := Lib.hid hti
        have HCT := Lib.hid hct
        have HVA := Lib.hid (Sg.vals_at HUB.out (List.mem_of_getElem? hti) hct)
        have HCA2 := Lib.hid (Sg.clashS_at HUB.out (List.mem_of_getElem? hti) hct)
        obtain ⟨wT, hwT⟩ : ∃ wT, wT = w7.alloc (.cells #[.string t.code, .int .i64 t.wide, .int .i64 t.high, .bool t.even, .slice A3 t.values.length c3] 67) := ⟨_, rfl⟩
        obtain ⟨tb, htbe⟩ : ∃ tb, tb = w7.heap.size := ⟨_, rfl⟩
        have hbT : Below w7.heap.size w7 wT := by rw [hwT]; exact (Below.refl _ _).alloc (Nat.le_refl _) _
        have htb : wT.heap[tb]? = some (.cells #[.string t.code, .int .i64 t.wide, .int .i64 t.high, .bool t.even, .slice A3 t.values.length c3] 67 (0, 0)) := by rw [hwT, htbe]; exact heap_alloc_new _ _
        have HBT := Lib.hid hbT
        have HTB := Lib.hid htb
        have HWT := Lib.hid hwT
        have HTBE := Lib.hid htbe
        have hi0 : (0 : Int) ≤ (i : Int) := by omega
        have hi1' : (i : Int) < (b.signs.length : Int) := by omega
        obtain ⟨-, y1⟩ := CY.out w7 H17.out
        clear hh hcd HIE hT hpt hixi hcell g0 g1 g2 g3 g4 hrt hwT htb hbT htbe hti hct hil
        subst hix
        go_upto_region 16 with fail
        rw [← HWT.out, ← HTBE.out]
        clear f0 f1 f2 f3 f4 y1
        have u1 : wT.cell? ⟨tb, 1, none⟩ = some (.int .i64 t.wide) := by have := HTB.out; simp [World.cell?, this]
        have u2 : wT.cell? ⟨tb, 2, none⟩ = some (.int .i64 t.high) := by have := HTB.out; simp [World.cell?, this]
        have u3 : wT.cell? ⟨tb, 3, none⟩ = some (.bool t.even) := by have := HTB.out; simp [World.cell?, this]
        have HSBT := Lib.hid ((HBT.out.block sb hsb7).trans HSB7.out)
        have t1 : wT.cell? ⟨sb, 1, none⟩ = some (.int .i64 s.wide) := by have := HSBT.out; simp [World.cell?, this]
        have t2 : wT.cell? ⟨sb, 2, none⟩ = some (.int .i64 s.high) := by have := HSBT.out; simp [World.cell?, this]
        have t3 : wT.cell? ⟨sb, 3, none⟩ = some (.bool s.even) := by have := HSBT.out; simp [World.cell?, this]
        go_cut [76] (fun c wx => c = .bool (Sg.oddS s t) ∧ wx = wT)
        case first =>
          by_cases h1 : t.wide = s.wide
          · rw [← h1] at t1
            by_cases h2 : t.high = s.high
            · rw [← h2] at t2
              by_cases h3 : t.even = s.even
              · rw [← h3] at t3
                have HO : Hid (Sg.oddS s t = false) := Lib.hid (Sg.odd_eq h1 h2 h3)
                clear h1 h2 h3
                go_wp2_with fail
                go_meet
                exact ⟨by rw [HO.out]; try simp, rfl⟩
              · have HO : Hid (Sg.oddS s t = true) := Lib.hid (Sg.odd_ne fun q => h3 q.2.2)
                have n3 : (t.even == s.even) = false := by rw [beq_eq_false_iff_ne]; exact h3
                have n3' : (t.even != s.even) = true := by rw [bne, n3]; rfl
                clear h1 h2 h3
                go_wp2_with fail
                go_meet
                exact ⟨by rw [HO.out]; try simp [n3, n3'], rfl⟩
            · have HO : Hid (Sg.oddS s t = true) := Lib.hid (Sg.odd_ne fun q => h2 q.2.1)
              have n2 : (t.high == s.high) = false := by rw [beq_eq_false_iff_ne]; exact h2
              have n2' : (t.high != s.high) = true := by rw [bne, n2]; rfl
              clear h1 h2
              go_wp2_with fail
              go_meet
              exact ⟨by rw [HO.out]; try simp [n2, n2'], rfl⟩
          · have HO : Hid (Sg.oddS s t = true) := Lib.hid (Sg.odd_ne fun q => h1 q.1)
            have n1 : (t.wide == s.wide) = false := by rw [beq_eq_false_iff_ne]; exact h1
            have n1' : (t.wide != s.wide) = true := by rw [bne, n1]; rfl
            clear h1
            go_wp2_with fail
            go_meet
            exact ⟨by rw [HO.out]; try simp [n1, n1'], rfl⟩
        case rest =>
          obtain ⟨rfl, hwx⟩ := hcut
          rename World => wx
          clear t1 t2 t3 u1 u2 u3
          have HBTX : Hid (Below w7.heap.size w7 wx) := Lib.hid (by rw [hwx]; exact HBT.out)
          have HTBX : Hid (wx.heap[tb]? = some (.cells #[.string t.code, .int .i64 t.wide, .int .i64 t.high, .bool t.even, .slice A3 t.values.length c3] 67 (0, 0))) := Lib.hid (by rw [hwx]; exact HTB.out)
          clear hwx HBT HTB HSBT HWT
          have HBRX : Hid (Below wr.heap.size wr wx) := Lib.hid (HBR7.out.trans (HBTX.out.mono HBR7.out.size))
          have HSBX := Lib.hid ((HBTX.out.block sb hsb7).trans HSB7.out)
          have H1X : Hid (Below W1.heap.size W1 wx) := Lib.hid (H1R.out.trans (HBRX.out.mono H1R.out.size))
          have HWX : Hid (Below w.heap.size w wx) := Lib.hid (HWR.out.trans (HBRX.out.mono HWR.out.size))
          have hsbx : sb < wx.heap.size := by have := HBTX.out.size; omega
          cases ho : Sg.oddS s t
          case true =>
            have HN : Hid (re = 11 ∧ rl = Sg.noL) := Lib.hid (by
              have := Sg.merge_clash (a := a) (b := b) HLA.out HLB.out (Sg.clash_in (List.mem_of_getElem? HS.out) (HCA2.out.trans ho))
              rw [HRE.out.1, HRE.out.2] at this
              exact this)
            clear ho
            obtain ⟨c0', c1', z0', z1'⟩ := CR.out wx H1X.out
            go_wp2_with fail
            refine bodyPost_ret (v := .tuple #[.agg #[.int .i64 0, .slice none 0 0], .int .i64 11]) (by simp [results, Tryz.results49, go_sem, c0', c1']) rfl ?_
            exact RetListE.zero HN.out.2 HN.out.1 ((Below.setCell HWX.out (by show w.heap.size ≤ w.heap.size + 2; omega) _).setCell (by show w.heap.size ≤ w.heap.size + 2; omega) _)
          case false =>
            have HCS := Lib.hid (HCA2.out.trans ho)
            clear ho
            have q0 : wx.cell? ⟨tb, 0, none⟩ = some (.string t.code) := by have := HTBX.out; simp [World.cell?, this]
            have q1 : wx.cell? ⟨tb, 1, none⟩ = some (.int .i64 t.wide) := by have := HTBX.out; simp [World.cell?, this]
            have q2 : wx.cell? ⟨tb, 2, none⟩ = some (.int .i64 t.high) := by have := HTBX.out; simp [World.cell?, this]
            have q3 : wx.cell? ⟨tb, 3, none⟩ = some (.bool t.even) := by have := HTBX.out; simp [World.cell?, this]
            have q4 : wx.cell? ⟨tb, 4, none⟩ = some (.slice A3 t.values.length c3) := by have := HTBX.out; simp [World.cell?, this]
            have HOBX := Lib.hid ((HOB7.out.kept HBTX.out).kept ((Below.refl _ _).alloc (Nat.le_refl _) (.cells #[.string t.code, .int .i64 t.wide, .int .i64 t.high, .bool t.even, .slice A3 t.values.length c3] 67)))
            obtain ⟨cellsB, hownB, hgrB⟩ := HOBX.out
            have HGB2 := Lib.hid hgrB
            have HOSB : Hid ((wx.alloc (.cells #[.string t.code, .int .i64 t.wide, .int .i64 t.high, .bool t.even, .slice A3 t.values.length c3] 67)).ownsRow 0 67 5 (.slice (some ⟨bb, 0, none⟩) 1 1) 1 cellsB) := Lib.hid hownB
            have HRDT := Lib.hid (rd_one_sign wx (t.code, t.wide, t.high, t.even, (A3, t.values.length, c3)))
            have hm2 : (1 : Nat) + 1 ≤ maxLen := by simp [maxLen]
            have hm3 : ((1 : Nat) + 1) * 64 ≤ 140737488355328 := by decide
            have hm4 : 0 ≤ (wx.alloc (.cells #[.string t.code, .int .i64 t.wide, .int .i64 t.high, .bool t.even, .slice A3 t.values.length c3] 67)).heap.size := Nat.zero_le _
            clear hownB hgrB
            go_wp2_with (at_builtin; go_must (refine wpList_append_rd (enc := encS) rfl (.tmp 78) (.tmp 80) _ rfl 0 67 i1 _ 5 64 len_S one_S Tryz.underlying22 hi1 hz1 hs1' hb1' rfl (by decide) (.slice (some ⟨bb, 0, none⟩) 1 1) 1 cellsB rfl HOSB.out _ (.slice (some ⟨wx.heap.size, 0, none⟩) 1 1) [(t.code, t.wide, t.high, t.even, (A3, t.values.length, c3))] rfl HRDT.out hm2 hm3 hm4 ?_))
            intro vB wY hownY hgY hatY
            have HBXY : Hid (Below sb wx wY → Below sb wx wY) := Lib.hid id
            have hbxa : Below bb wx (wx.alloc (.cells #[.string t.code, .int .i64 t.wide, .int .i64 t.high, .bool t.even, .slice A3 t.values.length c3] 67)) := (Below.refl _ _).alloc (by have := HBTX.out.size; omega) _
            have hbY : Below bb wx wY := hbxa.grown hgY (by have := HBTX.out.size; simp; omega) (fun x hx => by have e : bb = x := by simpa [Value.ownBlock] using hx
                                                                                                                omega)
            have HBYR : Hid (Below wr.heap.size wr wY) := Lib.hid (HBRX.out.trans (hbY.mono (by omega)))
            have HSBY := Lib.hid ((hbY.block sb hsbb).trans HSBX.out)
            have hsbY : sb < wY.heap.size := by have := hbY.size; omega
            have HOG2 : Hid (OwnG KSign 67 wY 0 vB ([s] ++ [t])) := Lib.hid (by
              refine OwnG.snoc HGB2.out (cs := encS (t.code, t.wide, t.high, t.even, (A3, t.values.length, c3))) ⟨.slice A3 t.values.length c3, rfl, ?_⟩ (by exact hownY) hgY ?_
              · refine HRT.out.keep fun j hj => ⟨⟨by have := HWX.out.size; simp; omega, fun e => ?_, Nat.zero_le _⟩, ?_⟩
                · have e' : bb = j := by simpa [Value.ownBlock] using e
                  have := HWR.out.size
                  omega
                · exact (((Below.refl wx.heap.size wx).alloc (Nat.le_refl _) _).block j (by have := HWX.out.size; omega)).trans (HWX.out.block j hj)
              · rcases hatY with h | h
                · exact .inl h
                · exact .inr ⟨_, h, by simp⟩)
            obtain ⟨AB, cB, hvB⟩ := own_form hownY
            have HTT : Hid (Calls Tryz.prog 85 #[vB] wY (RetVals T wY)) := Lib.hid (by
              have h1 := r1tidied_any _ [s, t] wY (rdg_own HOG2.out) (by simp) (fun u hu => by
                rcases List.mem_cons.1 hu with rfl | hu
                · exact HVL.out
                · rw [List.mem_singleton] at hu
                  subst hu
                  exact HVT.out)
              have e1 : Sg.valsS [s, t] = s.values ++ Sg.valsAt b.signs s.code := by rw [HVA.out]; simp [Sg.valsS]
              rwa [e1, ← HT.out] at h1)
            have hvB' : vB = .slice AB 2 cB := hvB
            clear hvB hownY hgY hatY hbxa hbY q0 q1 q2 q3 q4
            subst hvB'
            go_wp2_with fail
            refine HTT.out.mono ?_
            rintro e w8 ⟨v8, rfl, hown8, hb8⟩
            obtain ⟨A8, c8, rfl⟩ := own_form hown8
            have hsb8 := (hb8.block sb hsbY).trans HSBY.out
            have s4 : w8.cell? ⟨sb, 4, none⟩ = some (.slice A2 s.values.length c2) := by simp [World.cell?, hsb8]
            have y4 : w8.frozen? ⟨sb, 4, none⟩ = false := by simp [World.frozen?, hsb8]
            obtain ⟨w9, hw9⟩ : ∃ w9, w9 = w8.setCell ⟨sb, 4, none⟩ (.slice A8 T.length c8) := ⟨_, rfl⟩
            have hsb9 : w9.heap[sb]? = some (.cells #[.string s.code, .int .i64 s.wide, .int .i64 s.high, .bool s.even, .slice A8 T.length c8] 67 (0, 0)) := by rw [hw9]; exact gset hsb8 _
            have hsz9 : w9.heap.size = w8.heap.size := by rw [hw9]; simp [World.setCell]
            have hb9 : Below wr.heap.size wr w9 := by rw [hw9]; exact (HBYR.out.trans (hb8.mono HBYR.out.size)).setCell (by exact hsbr) _
            have HO9 : Hid (w9.ownsRow wY.heap.size 60 4 (.slice A8 T.length c8) T.length (T.flatMap encValue)) := Lib.hid (by rw [hw9]; exact own_side hown8 hsbY _)
            have hz9 := (hb9.block ob hlt3).trans HZ.out
            have HZ9 := Lib.hid hz9
            have HW9 := Lib.hid hw9
            have HB9 := Lib.hid hb9
            have HSZ : Hid (wY.heap.size ≤ w9.heap.size ∧ wr.heap.size ≤ wY.heap.size) := Lib.hid ⟨by have := hb8.size; omega, HBYR.out.size⟩
            clear hown8 hb8 hsb8 hw9 hb9 hsz9
            go_upto_region 20 with fail
            rw [← HW9.out]
            clear s4 y4
            have v0 : w9.cell? ⟨sb, 0, none⟩ = some (.string s.code) := by simp [World.cell?, hsb9]
            have v1 : w9.cell? ⟨sb, 1, none⟩ = some (.int .i64 s.wide) := by simp [World.cell?, hsb9]
            have v2 : w9.cell? ⟨sb, 2, none⟩ = some (.int .i64 s.high) := by simp [World.cell?, hsb9]
            have v3 : w9.cell? ⟨sb, 3, none⟩ = some (.bool s.even) := by simp [World.cell?, hsb9]
            have v4 : w9.cell? ⟨sb, 4, none⟩ = some (.slice A8 T.length c8) := by simp [World.cell?, hsb9]
            have c1 : w9.cell? ⟨ob, 1, none⟩ = some (.slice Av n cv) := by simp [World.cell?, hz9]
            have HOQ : Hid (OwnG KSign 67 (w9.alloc (.cells #[.string s.code, .int .i64 s.wide, .int .i64 s.high, .bool s.even, .slice A8 T.length c8] 67)) (ob + 1) (.slice Av n cv) ((a.signs.take k).map fun s => Sg.tidyS (Sg.joinS b.signs s))) := Lib.hid (HOK.out.kept (HB9.out.trans ((Below.refl _ _).alloc (by have := HB9.out.size; omega) _)))
            obtain ⟨cells, hown3, hgr3⟩ := HOQ.out
            rw [← HNX.out] at hown3
            have HGR := Lib.hid hgr3
            have HOS := Lib.hid hown3
            have HRD := Lib.hid (rd_one_sign w9 (s.code, s.wide, s.high, s.even, (A8, T.length, c8)))
            have hk1 : n + 1 ≤ maxLen := by simp only [maxLen]; omega
            have hk2 : (n + 1) * 64 ≤ 140737488355328 := by omega
            have hbase : ob + 1 ≤ (w9.alloc (.cells #[.string s.code, .int .i64 s.wide, .int .i64 s.high, .bool s.even, .slice A8 T.length c8] 67)).heap.size := by have := HSZ.out; simp; omega
            clear hsb9 hz9 hgr3 hown3
            go_wp2_with (at_builtin; go_must (refine wpList_append_rd (enc := encS) rfl (.tmp 86) (.tmp 88) _ rfl (ob + 1) 67 i1 _ 5 64 len_S one_S Tryz.underlying22 hi1 hz1 hs1' hb1' rfl (by decide) (.slice Av n cv) n cells rfl HOS.out _ (.slice (some ⟨w9.heap.size, 0, none⟩) 1 1) [(s.code, s.wide, s.high, s.even, (A8, T.length, c8))] rfl HRD.out hk1 hk2 hbase ?_))
            intro v5 w5 hown5 hg5 hat5
            obtain ⟨A5, c5, hv5⟩ := own_form hown5
            have hv5' : v5 = .slice A5 (n + 1) c5 := hv5
            clear hv5
            subst hv5'
            have hz5 : w5.heap[ob]? = some (.cells #[.int .i64 pm, .slice Av n cv] 24 (0, 0)) := ((hg5.block ob (by omega) (fun e => by have := (HOS.out.lt _ e.symm).1; omega)).trans (((Below.refl w9.heap.size w9).alloc (Nat.le_refl _) _).block ob (by have := HSZ.out; omega))).trans HZ9.out
            have hb5 : Below ob w3 w5 := ((HBW.out.trans (HB9.out.mono (by omega))).alloc (by have := HSZ.out; omega) _).grown hg5 (by omega) (fun x hx => by have := (HOS.out.lt x hx).1; omega)
            have HON : Hid (OwnG KSign 67 w5 (ob + 1) (.slice A5 (n + 1) c5) (((a.signs.take k).map fun s => Sg.tidyS (Sg.joinS b.signs s)) ++ [⟨s.code, s.wide, s.high, s.even, T⟩])) := Lib.hid (by
              refine OwnG.snoc HGR.out (cs := encS (s.code, s.wide, s.high, s.even, (A8, T.length, c8))) ⟨.slice A8 T.length c8, rfl, ?_⟩ (by rw [← HNX.out]; exact hown5) hg5 ?_
              · refine (rdx_of_own len_value HO9.out).keep fun j hj => ⟨⟨by simp; omega, fun e => ?_, by have := HSZ.out; omega⟩, ?_⟩
                · have := (HOK.out.lt j e).2
                  have := HSZ.out
                  omega
                · exact ((Below.refl w9.heap.size w9).alloc (Nat.le_refl _) _).block j (by omega)
              · rcases hat5 with h | h
                · exact .inl h
                · exact .inr ⟨_, h, by simp⟩)
            have c1 : w5.cell? ⟨ob, 1, none⟩ = some (.slice Av n cv) := by simp [World.cell?, hz5]
            have z1 : w5.frozen? ⟨ob, 1, none⟩ = false := by simp [World.frozen?, hz5]
            obtain ⟨w6, hw6⟩ : ∃ w6, w6 = w5.setCell ⟨ob, 1, none⟩ (.slice A5 (n + 1) c5) := ⟨_, rfl⟩
            have HZ6 : Hid (w6.heap[ob]? = some (.cells #[.int .i64 pm, .slice A5 (n + 1) c5] 24 (0, 0))) := Lib.hid (by rw [hw6]; exact gset hz5 _)
            have HB6 : Hid (Below ob w3 w6) := Lib.hid (by rw [hw6]; exact hb5.setCell (Nat.le_refl _) _)
            have HO6 : Hid (OwnG KSign 67 w6 (ob + 1) (.slice A5 (n + 1) c5) (((a.signs.take k).map fun s => Sg.tidyS (Sg.joinS b.signs s)) ++ [⟨s.code, s.wide, s.high, s.even, T⟩])) := Lib.hid (by rw [hw6]; exact HON.out.aside (grown_set _ _ _) (by intro x hx; cases hx; show ob < _; omega))
            have HW6 := Lib.hid hw6
            clear hown5 hg5 hat5 hz5 hb5 hw6 v0 v1 v2 v3 v4
            go_upto_region 10 with fail
            rw [← HW6.out]
            clear c1 z1
            have HNE : Hid (((a.signs.take k).map fun s => Sg.tidyS (Sg.joinS b.signs s)) ++ [⟨s.code, s.wide, s.high, s.even, T⟩] = (a.signs.take (k + 1)).map fun s => Sg.tidyS (Sg.joinS b.signs s)) := Lib.hid (by
              rw [List.take_add_one, HS.out, HT.out, List.map_append]
              rfl)
            go_wp2_with fail
            go_roundg (a.signs.length - (k + 1))
            case measure => omega
            case rel => exact ⟨k + 1, .slice A5 (n + 1) c5, by omega, rfl, by go_num, HB6.out, HZ6.out, by rw [← HNE.out]; exact HO6.out, Sg.any_next HS.out HCL.out HCS.out⟩
    · have hkJ : ¬ (k : Int) < (a.signs.length : Int) := by omega
      have HCB2 : Hid (Sg.clashB a.signs b.signs = false) := Lib.hid (by
        rw [Sg.clash_any]
        have := HCL.out
        rwa [List.take_of_length_le (by omega)] at this)
      have HOA : Hid (OwnG KSign 67 wr (ob + 1) (.slice Av n cv) ((a.signs.map fun s => Sg.tidyS (Sg.joinS b.signs s)) ++ ((b.signs.take 0).filter fun t => !Sg.hasC a.signs t.code).map Sg.tidyS)) := Lib.hid (by
        have := HOK.out
        rw [List.take_of_length_le (by omega)] at this
        simpa using this)
      have HBA := HBW
      have HZA := HZ
      clear HOK HNX HWR HBW HZ hlt3 hn4 HCL
      go_wp2_with fail
      clear x1
      go_loopg [13] b.signs.length (fun g i wr => ∃ (k : Nat) (vv : Value), k ≤ b.signs.length ∧ g = b.signs.length - k ∧ i = .int .i64 (k : Nat) ∧ Below ob w3 wr ∧ wr.heap[ob]? = some (.cells #[.int .i64 pm, vv] 24 (0, 0)) ∧ OwnG KSign 67 wr (ob + 1) vv ((a.signs.map fun s => Sg.tidyS (Sg.joinS b.signs s)) ++ ((b.signs.take k).filter fun t => !Sg.hasC a.signs t.code).map Sg.tidyS))
      case atStart => exact ⟨0, .slice Av n cv, Nat.zero_le _, rfl, rfl, HBA.out, HZA.out, HOA.out⟩
      case round =>
        clear H1R HOA HBA HZA
        obtain ⟨k, vv, hk, rfl, rfl, hbel, hz, hown⟩ := hrel
        rename World => wr
        obtain ⟨n, hn⟩ : ∃ n, n = ((a.signs.map fun s => Sg.tidyS (Sg.joinS b.signs s)) ++ ((b.signs.take k).filter fun t => !Sg.hasC a.signs t.code).map Sg.tidyS).length := ⟨_, rfl⟩
        obtain ⟨Av, cv, rfl⟩ : ∃ A c, vv = .slice A n c := by rw [hn]; exact hown.form
        have hlt3 : ob < wr.heap.size := (Array.getElem?_eq_some_iff.1 hz).1
        have HBW := Lib.hid hbel
        have HZ := Lib.hid hz
        have HOK := Lib.hid hown
        have HNX := Lib.hid hn
        have HWR : Hid (Below w.heap.size w wr) := Lib.hid (HB3.out.trans (hbel.mono (by omega)))
        have H1R : Hid (Below W1.heap.size W1 wr) := Lib.hid (H3.out.trans (hbel.mono hobl))
        have hn4 : n ≤ 400 := by
          rw [hn, List.length_append, List.length_map, List.length_map]
          have h1 := List.length_filter_le (fun t => !Sg.hasC a.signs t.code) (b.signs.take k)
          have h2 := List.length_take_le k b.signs
          omega
        obtain ⟨-, y1⟩ := CY.out wr H1R.out
        clear hbel hz hown hn
        by_cases hlt : k < b.signs.length
        · obtain ⟨bk, off, hB0, hb, hcell⟩ := HGB.out.five (by omega)
          obtain ⟨s, hs⟩ : ∃ s, b.signs[k]? = some s := ⟨_, List.getElem?_eq_getElem hlt⟩
          have hcs := hcell k s hs
          have CF : Hid (∀ W, Below wr.heap.size wr W → W.cell? ⟨bk, off + k * 5, none⟩ = some (.string s.code)) := Lib.hid fun W hW => by
            obtain ⟨uv, -, g0, -⟩ := hcs
            exact ((HWR.out.trans (hW.mono HWR.out.size)).cell (p := ⟨bk, off + k * 5, none⟩) hb).trans g0
          obtain ⟨ix, hix⟩ : ∃ ix, ix = idxOf (Sg.codeIs s.code) a.signs := ⟨_, rfl⟩
          have HIX : Hid (∀ W, Below wr.heap.size wr W → Calls Tryz.prog 66 #[.agg #[.int .i64 a.periods, .slice A0 a.signs.length c0], .string s.code] W (RetIB ix W)) := Lib.hid fun W hW => by
            rw [hix]
            exact r1index_any _ a s.code W (HRA.out.on (HWR.out.trans (hW.mono HWR.out.size)))
          have HIE := Lib.hid hix
          have HSE := Lib.hid hs
          have hcd : Sg.codeIs s.code = Sg.isC s.code := by funext t; rfl
          obtain ⟨q, hq⟩ : ∃ q, q = !Sg.hasC a.signs s.code := ⟨_, rfl⟩
          have HQ : Hid (decide (ix < 0) = q) := Lib.hid (by
            rw [hq, hix, hcd]
            cases hh : Sg.hasC a.signs s.code
            · rw [idx_not hh]; rfl
            · obtain ⟨i, t, -, -, e⟩ := idx_at (p := Sg.isC s.code) (xs := a.signs) hh
              rw [e]
              simp)
          have HHC : Hid ((!Sg.hasC a.signs s.code) = q) := Lib.hid hq.symm
          have hkI : (0 : Int) ≤ (k : Int) := by omega
          have hkJ : (k : Int) < (b.signs.length : Int) := by omega
          have HBK := Lib.hid hB0
          have HYY := Lib.hid y1
          clear hs hcs hcell hix hcd hq
          subst hB0
          go_upto_region 24 with fail
          clear y1
          refine wp_region_inv2T (fun T0 => RmaI T0 wr w.heap.size (w.heap.size + 1) a.periods A0 a.signs.length c0 bk off b.signs.length d0 k s.code ix q) (by kernel_rfl) (by kernel_rfl) ?g0a ?gstepa ?genda
          case g0a =>
            have hno : ∀ j, ¬ dn (Array.replicate 9 false) j := by
              intro j; unfold dn; by_cases hj : j < 9 <;> simp [Array.getD, hj]
            have na : ∀ {j : Nat} {Z : Prop}, dn (Array.replicate 9 false) j → Z := fun hj => absurd hj (hno _)
            exact ⟨_, rfl, { bel := (Below.refl _ _).drew, siz := rfl, kp := fun _ _ => rfl, k2 := rfl, k3 := rfl, k13 := rfl, p0 := na, p1 := na, p2 := na, p3 := na, p4 := na, p5 := na, p6 := na, p7 := na, p8 := na }⟩
          case gstepa =>
            intro T0 d a wc i hd hI hi
            obtain ⟨hlt, hnd, hpre⟩ := mem_ready hi
            have hd' : d.size = 9 := hd
            have hin : i < 9 := hlt
            clear hi hd hlt
            obtain ⟨t, rfl, h⟩ := hI
            have hcs : i = 0 ∨ i = 1 ∨ i = 2 ∨ i = 3 ∨ i = 4 ∨ i = 5 ∨ i = 6 ∨ i = 7 ∨ i = 8 := by omega
            rcases hcs with rfl | rfl | rfl | rfl | rfl | rfl | rfl | rfl | rfl
            · have hi : 0 < d.size := by omega
              have q2 := h.k2
              obtain ⟨x0, x1⟩ := CX.out wc (H1R.out.trans (h.bel.mono H1R.out.size))
              refine wpOp_plain rfl rfl ?_
              go_simp
              exact ⟨_, rfl, { bel := h.bel, siz := (by simpa using h.siz), kp := rk h.kp, k2 := rs h.k2, k3 := rs h.k3, k13 := rs h.k13, p0 := fun _ => set_same (by have := h.siz; omega), p1 := rp hi h.p1, p2 := rp hi h.p2, p3 := rp hi h.p3, p4 := rp hi h.p4, p5 := rp hi h.p5, p6 := rp hi h.p6, p7 := rp hi h.p7, p8 := rp hi h.p8 }⟩
            · have hi : 1 < d.size := by omega
              have q3 := h.k3
              refine wpOp_plain rfl rfl ?_
              go_simp
              exact ⟨_, rfl, { bel := h.bel, siz := (by simpa using h.siz), kp := rk h.kp, k2 := rs h.k2, k3 := rs h.k3, k13 := rs h.k13, p0 := rp hi h.p0, p1 := fun _ => set_same (by have := h.siz; omega), p2 := rp hi h.p2, p3 := rp hi h.p3, p4 := rp hi h.p4, p5 := rp hi h.p5, p6 := rp hi h.p6, p7 := rp hi h.p7, p8 := rp hi h.p8 }⟩
            · have hi : 2 < d.size := by omega
              have e1 := h.p1 (hpre _ rfl ⟨1, .data⟩ (by simp) rfl)
              obtain ⟨y0, y1⟩ := CY.out wc (H1R.out.trans (h.bel.mono H1R.out.size))
              refine wpOp_plain rfl rfl ?_
              go_simp
              exact ⟨_, rfl, { bel := h.bel, siz := (by simpa using h.siz), kp := rk h.kp, k2 := rs h.k2, k3 := rs h.k3, k13 := rs h.k13, p0 := rp hi h.p0, p1 := rp hi h.p1, p2 := fun _ => set_same (by have := h.siz; omega), p3 := rp hi h.p3, p4 := rp hi h.p4, p5 := rp hi h.p5, p6 := rp hi h.p6, p7 := rp hi h.p7, p8 := rp hi h.p8 }⟩
            · have hi : 3 < d.size := by omega
              have q13 := h.k13
              refine wpOp_plain rfl rfl ?_
              go_simp
              exact ⟨_, rfl, { bel := h.bel, siz := (by simpa using h.siz), kp := rk h.kp, k2 := rs h.k2, k3 := rs h.k3, k13 := rs h.k13, p0 := rp hi h.p0, p1 := rp hi h.p1, p2 := rp hi h.p2, p3 := fun _ => set_same (by have := h.siz; omega), p4 := rp hi h.p4, p5 := rp hi h.p5, p6 := rp hi h.p6, p7 := rp hi h.p7, p8 := rp hi h.p8 }⟩
            · have hi : 4 < d.size := by omega
              have e2 := h.p2 (hpre _ rfl ⟨2, .data⟩ (by simp) rfl)
              have e3 := h.p3 (hpre _ rfl ⟨3, .data⟩ (by simp) rfl)
              refine wpOp_plain rfl rfl ?_
              go_simp
              exact ⟨_, rfl, { bel := h.bel, siz := (by simpa using h.siz), kp := rk h.kp, k2 := rs h.k2, k3 := rs h.k3, k13 := rs h.k13, p0 := rp hi h.p0, p1 := rp hi h.p1, p2 := rp hi h.p2, p3 := rp hi h.p3, p4 := fun _ => set_same (by have := h.siz; omega), p5 := rp hi h.p5, p6 := rp hi h.p6, p7 := rp hi h.p7, p8 := rp hi h.p8 }⟩
            · have hi : 5 < d.size := by omega
              have e4 := h.p4 (hpre _ rfl ⟨4, .data⟩ (by simp) rfl)
              refine wpOp_plain rfl rfl ?_
              go_simp
              exact ⟨_, rfl, { bel := h.bel, siz := (by simpa using h.siz), kp := rk h.kp, k2 := rs h.k2, k3 := rs h.k3, k13 := rs h.k13, p0 := rp hi h.p0, p1 := rp hi h.p1, p2 := rp hi h.p2, p3 := rp hi h.p3, p4 := rp hi h.p4, p5 := fun _ => set_same (by have := h.siz; omega), p6 := rp hi h.p6, p7 := rp hi h.p7, p8 := rp hi h.p8 }⟩
            · have hi : 6 < d.size := by omega
              have e5 := h.p5 (hpre _ rfl ⟨5, .data⟩ (by simp) rfl)
              have f0 := CF.out wc h.bel
              refine wpOp_plain rfl rfl ?_
              go_simp
              exact ⟨_, rfl, { bel := h.bel, siz := (by simpa using h.siz), kp := rk h.kp, k2 := rs h.k2, k3 := rs h.k3, k13 := rs h.k13, p0 := rp hi h.p0, p1 := rp hi h.p1, p2 := rp hi h.p2, p3 := rp hi h.p3, p4 := rp hi h.p4, p5 := rp hi h.p5, p6 := fun _ => set_same (by have := h.siz; omega), p7 := rp hi h.p7, p8 := rp hi h.p8 }⟩
            · have hi : 7 < d.size := by omega
              have e0 := h.p0 (hpre _ rfl ⟨0, .data⟩ (by simp) rfl)
              have e6 := h.p6 (hpre _ rfl ⟨6, .data⟩ (by simp) rfl)
              refine wpOp_plain rfl rfl ?_
              go_simp
              refine (HIX.out wc h.bel).mono ?_
              rintro e1 w1 ⟨rfl, hb⟩
              exact ⟨_, rfl, { bel := h.bel.trans (hb.mono h.bel.size), siz := (by simpa using h.siz), kp := rk h.kp, k2 := rs h.k2, k3 := rs h.k3, k13 := rs h.k13, p0 := rp hi h.p0, p1 := rp hi h.p1, p2 := rp hi h.p2, p3 := rp hi h.p3, p4 := rp hi h.p4, p5 := rp hi h.p5, p6 := rp hi h.p6, p7 := fun _ => set_same (by have := h.siz; omega), p8 := rp hi h.p8 }⟩
            · have hi : 8 < d.size := by omega
              have e7 := h.p7 (hpre _ rfl ⟨7, .data⟩ (by simp) rfl)
              refine wpOp_plain rfl rfl ?_
              go_simp
              try rw [HQ.out]
              exact ⟨_, rfl, { bel := h.bel, siz := (by simpa using h.siz), kp := rk h.kp, k2 := rs h.k2, k3 := rs h.k3, k13 := rs h.k13, p0 := rp hi h.p0, p1 := rp hi h.p1, p2 := rp hi h.p2, p3 := rp hi h.p3, p4 := rp hi h.p4, p5 := rp hi h.p5, p6 := rp hi h.p6, p7 := rp hi h.p7, p8 := fun _ => set_same (by have := h.siz; omega) }⟩
          case genda =>
            intro d a wc hd hI hall
            obtain ⟨t, rfl, h⟩ := hI
            have hdn : ∀ j, j < 9 → dn d j := fun j hj => dn_all hd hall hj
            have hd : ∀ j, (_ : j < 9 := by decide) → dn d j := fun j hj => hdn j hj
            have hfe := frame_eq [(98, _), (99, _), (100, _), (101, _), (102, _), (103, _), (104, _), (105, _), (106, _)] (h.siz.trans rfl) h.kp rfl ⟨h.p0 (hd 0), h.p1 (hd 1), h.p2 (hd 2), h.p3 (hd 3), h.p4 (hd 4), h.p5 (hd 5), h.p6 (hd 6), h.p7 (hd 7), h.p8 (hd 8), trivial⟩
            simp only [List.foldl_cons, List.foldl_nil, List.setIfInBounds_toArray, List.set_cons_succ, List.set_cons_zero] at hfe
            have hbc := h.bel
            subst hfe
            clear h hdn hd hall
            have HBC := Lib.hid hbc
            have H1C : Hid (Below W1.heap.size W1 wc) := Lib.hid (H1R.out.trans (hbc.mono H1R.out.size))
            clear hbc
            cases q
            · have HNE : Hid (((a.signs.map fun s => Sg.tidyS (Sg.joinS b.signs s)) ++ ((b.signs.take k).filter fun t => !Sg.hasC a.signs t.code).map Sg.tidyS) = (a.signs.map fun s => Sg.tidyS (Sg.joinS b.signs s)) ++ ((b.signs.take (k + 1)).filter fun t => !Sg.hasC a.signs t.code).map Sg.tidyS) := Lib.hid (by
                rw [Sg.filter_next HSE.out, HHC.out]
                simp)
              have HB6 : Hid (Below ob w3 wc) := Lib.hid (HBW.out.trans (HBC.out.mono (by omega)))
              have HZ6 := Lib.hid ((HBC.out.block ob hlt3).trans HZ.out)
              have HO6 := Lib.hid (HOK.out.kept HBC.out)
              go_wp2_with fail
              go_roundg (b.signs.length - (k + 1))
              case measure => omega
              case rel => exact ⟨k + 1, .slice Av n cv, by omega, rfl, by go_num, HB6.out, HZ6.out, by rw [← HNE.out]; exact HO6.out⟩
            · have HBW2 : Hid (Below ob w3 wc) := Lib.hid (HBW.out.trans (HBC.out.mono (by omega)))
              have HZ2 := Lib.hid ((HBC.out.block ob hlt3).trans HZ.out)
              have HOK2 := Lib.hid (HOK.out.kept HBC.out)
              have HWR2 : Hid (Below w.heap.size w wc) := Lib.hid (HWR.out.trans (HBC.out.mono HWR.out.size))
              have hlt2 : ob < wc.heap.size := Nat.lt_of_lt_of_le hlt3 HBC.out.size
              clear HBW HZ HOK HWR H1R hlt3 CF HIX HBC hkI hkJ hb
              obtain ⟨wr, hwr⟩ : ∃ wr, wr = wc := ⟨_, rfl⟩
              have HBW : Hid (Below ob w3 wr) := Lib.hid (by rw [hwr]; exact HBW2.out)
              have HZ : Hid (wr.heap[ob]? = some (.cells #[.int .i64 pm, .slice Av n cv] 24 (0, 0))) := Lib.hid (by rw [hwr]; exact HZ2.out)
              have HOK : Hid (OwnG KSign 67 wr (ob + 1) (.slice Av n cv) ((a.signs.map fun s => Sg.tidyS (Sg.joinS b.signs s)) ++ ((b.signs.take k).filter fun t => !Sg.hasC a.signs t.code).map Sg.tidyS)) := Lib.hid (by rw [hwr]; exact HOK2.out)
              have HWR : Hid (Below w.heap.size w wr) := Lib.hid (by rw [hwr]; exact HWR2.out)
              have H1R : Hid (Below W1.heap.size W1 wr) := Lib.hid (by rw [hwr]; exact H1C.out)
              have hlt3 : ob < wr.heap.size := by rw [hwr]; exact hlt2
              obtain ⟨-, y1⟩ := CY.out wr H1R.out
              rw [← hwr]
              clear hwr HBW2 HZ2 HOK2 HWR2 hlt2 H1C
              have hs := HSE.out
              obtain ⟨bk', off', hA', hb, hcell⟩ := HGB.out.five (by omega)
              injection hA' with hA'
              injection hA' with e1 e2
              subst e1; subst e2
              obtain ⟨uv, hrd, g0, g1, g2, g3, g4⟩ := hcell k s hs
              have f0 := (HWR.out.cell (p := ⟨bk, off + k * 5, none⟩) hb).trans g0
              have f1 := (HWR.out.cell (p := ⟨bk, off + k * 5 + 1, none⟩) hb).trans g1
              have f2 := (HWR.out.cell (p := ⟨bk, off + k * 5 + 2, none⟩) hb).trans g2
              have f3 := (HWR.out.cell (p := ⟨bk, off + k * 5 + 3, none⟩) hb).trans g3
              have f4 := (HWR.out.cell (p := ⟨bk, off + k * 5 + 4, none⟩) hb).trans g4
              obtain ⟨A2, c2, rfl, hvc, hvm⟩ := rds_form hrd.rds
              have HRX := Lib.hid hrd
              have hvl := HVb.out s (List.mem_of_getElem? hs)
              have HVL := Lib.hid hvl
              obtain ⟨wS, hwS⟩ : ∃ wS, wS = wr.alloc (.cells #[.string s.code, .int .i64 s.wide, .int .i64 s.high, .bool s.even, .slice A2 s.values.length c2] 67) := ⟨_, rfl⟩
              obtain ⟨sb, hsbe⟩ : ∃ sb, sb = wr.heap.size := ⟨_, rfl⟩
              have hbS : Below wr.heap.size wr wS := by rw [hwS]; exact (Below.refl _ _).alloc (Nat.le_refl _) _
              have hsb : wS.heap[sb]? = some (.cells #[.string s.code, .int .i64 s.wide, .int .i64 s.high, .bool s.even, .slice A2 s.values.length c2] 67 (0, 0)) := by rw [hwS, hsbe]; exact heap_alloc_new _ _
              have hsbl : sb < wS.heap.size := by rw [hwS, hsbe]; simp
              have hsbr : wr.heap.size ≤ sb := by omega
              have HBRS := Lib.hid hbS
              have HSB := Lib.hid hsb
              have HWS := Lib.hid hwS
              have HSBE := Lib.hid hsbe
              have HS := Lib.hid hs
              have hkI : (0 : Int) ≤ (k : Int) := by omega
              have hkJ : (k : Int) < (b.signs.length : Int) := by omega
              clear hcell hs g0 g1 g2 g3 g4 hrd hwS hbS hsb hsbe hvl
              go_upto_region 26 with fail
              rw [← HWS.out, ← HSBE.out]
              clear f0 f1 f2 f3 f4
              have s4 : wS.cell? ⟨sb, 4, none⟩ = some (.slice A2 s.values.length c2) := by have := HSB.out; simp [World.cell?, this]
              have H1S : Hid (Below W1.heap.size W1 wS) := Lib.hid (H1R.out.trans (HBRS.out.mono H1R.out.size))
              have HWS2 : Hid (Below w.heap.size w wS) := Lib.hid (HWR.out.trans (HBRS.out.mono HWR.out.size))
              clear y1
              obtain ⟨-, y1⟩ := CY.out wS H1S.out
              obtain ⟨T, hT⟩ : ∃ T, T = Sg.tidiedV s.values := ⟨_, rfl⟩
              have HT := Lib.hid hT
              have HTT : Hid (Calls Tryz.prog 85 #[.slice (some ⟨bk, off + k * 5, none⟩) 1 (d0 - k)] wS (RetVals T wS)) := Lib.hid (by
                have hv1 : Sg.valsS [s] = s.values := by simp [Sg.valsS]
                have h1 := r1tidied_any (.slice (some ⟨bk, off + k * 5, none⟩) 1 (d0 - k)) [s] wS ((rdg_one HGB.out HS.out).keep fun j hj => ⟨Nat.lt_of_lt_of_le hj HWS2.out.size, HWS2.out.block j hj⟩) (by simp) (fun t ht => by
                  rw [List.mem_singleton] at ht
                  subst ht
                  exact HVL.out)
                rwa [hv1, ← hT] at h1)
              have hcl0 : b.signs.length ≤ d0 := by
                obtain ⟨A', c', e, h1, -⟩ := HGB.out
                cases e
                exact h1
              have hq1 : (k : Int) + 1 ≤ (d0 : Int) := by omega
              have hq0 : (0 : Int) ≤ (k : Int) + 1 := by omega
              have hck : ¬ d0 = k := by omega
              clear hT hcl0
              go_wp2_with fail
              clear y1 s4
              refine HTT.out.mono ?_
              rintro e w8 ⟨v8, rfl, hown8, hb8⟩
              obtain ⟨A8, c8, rfl⟩ := own_form hown8
              have hsb8 := (hb8.block sb hsbl).trans HSB.out
              have s4 : w8.cell? ⟨sb, 4, none⟩ = some (.slice A2 s.values.length c2) := by simp [World.cell?, hsb8]
              have y4 : w8.frozen? ⟨sb, 4, none⟩ = false := by simp [World.frozen?, hsb8]
              obtain ⟨w9, hw9⟩ : ∃ w9, w9 = w8.setCell ⟨sb, 4, none⟩ (.slice A8 T.length c8) := ⟨_, rfl⟩
              have hsb9 : w9.heap[sb]? = some (.cells #[.string s.code, .int .i64 s.wide, .int .i64 s.high, .bool s.even, .slice A8 T.length c8] 67 (0, 0)) := by rw [hw9]; exact gset hsb8 _
              have hsz9 : w9.heap.size = w8.heap.size := by rw [hw9]; simp [World.setCell]
              have hb9 : Below wr.heap.size wr w9 := by rw [hw9]; exact (HBRS.out.trans (hb8.mono HBRS.out.size)).setCell (by exact hsbr) _
              have HO9 : Hid (w9.ownsRow wS.heap.size 60 4 (.slice A8 T.length c8) T.length (T.flatMap encValue)) := Lib.hid (by rw [hw9]; exact own_side hown8 hsbl _)
              have hz9 := (hb9.block ob hlt3).trans HZ.out
              have HZ9 := Lib.hid hz9
              have HW9 := Lib.hid hw9
              have HB9 := Lib.hid hb9
              have HSZ : Hid (wS.heap.size ≤ w9.heap.size ∧ wr.heap.size ≤ wS.heap.size) := Lib.hid ⟨by have := hb8.size; omega, HBRS.out.size⟩
              clear hown8 hb8 hsb8 hw9 hb9 hsz9
              go_upto_region 27 with fail
              rw [← HW9.out]
              clear s4 y4
              have v0 : w9.cell? ⟨sb, 0, none⟩ = some (.string s.code) := by simp [World.cell?, hsb9]
              have v1 : w9.cell? ⟨sb, 1, none⟩ = some (.int .i64 s.wide) := by simp [World.cell?, hsb9]
              have v2 : w9.cell? ⟨sb, 2, none⟩ = some (.int .i64 s.high) := by simp [World.cell?, hsb9]
              have v3 : w9.cell? ⟨sb, 3, none⟩ = some (.bool s.even) := by simp [World.cell?, hsb9]
              have v4 : w9.cell? ⟨sb, 4, none⟩ = some (.slice A8 T.length c8) := by simp [World.cell?, hsb9]
              have c1 : w9.cell? ⟨ob, 1, none⟩ = some (.slice Av n cv) := by simp [World.cell?, hz9]
              have HOQ : Hid (OwnG KSign 67 (w9.alloc (.cells #[.string s.code, .int .i64 s.wide, .int .i64 s.high, .bool s.even, .slice A8 T.length c8] 67)) (ob + 1) (.slice Av n cv) ((a.signs.map fun s => Sg.tidyS (Sg.joinS b.signs s)) ++ ((b.signs.take k).filter fun t => !Sg.hasC a.signs t.code).map Sg.tidyS)) := Lib.hid (HOK.out.kept (HB9.out.trans ((Below.refl _ _).alloc (by have := HB9.out.size; omega) _)))
              obtain ⟨cells, hown3, hgr3⟩ := HOQ.out
              rw [← HNX.out] at hown3
              have HGR := Lib.hid hgr3
              have HOS := Lib.hid hown3
              have HRD := Lib.hid (rd_one_sign w9 (s.code, s.wide, s.high, s.even, (A8, T.length, c8)))
              have hk1 : n + 1 ≤ maxLen := by simp only [maxLen]; omega
              have hk2 : (n + 1) * 64 ≤ 140737488355328 := by omega
              have hbase : ob + 1 ≤ (w9.alloc (.cells #[.string s.code, .int .i64 s.wide, .int .i64 s.high, .bool s.even, .slice A8 T.length c8] 67)).heap.size := by have := HSZ.out; simp; omega
              clear hsb9 hz9 hgr3 hown3
              go_wp2_with (at_builtin; go_must (refine wpList_append_rd (enc := encS) rfl (.tmp 121) (.tmp 123) _ rfl (ob + 1) 67 i1 _ 5 64 len_S one_S Tryz.underlying22 hi1 hz1 hs1' hb1' rfl (by decide) (.slice Av n cv) n cells rfl HOS.out _ (.slice (some ⟨w9.heap.size, 0, none⟩) 1 1) [(s.code, s.wide, s.high, s.even, (A8, T.length, c8))] rfl HRD.out hk1 hk2 hbase ?_))
              intro v5 w5 hown5 hg5 hat5
              obtain ⟨A5, c5, hv5⟩ := own_form hown5
              have hv5' : v5 = .slice A5 (n + 1) c5 := hv5
              clear hv5
              subst hv5'
              have hz5 : w5.heap[ob]? = some (.cells #[.int .i64 pm, .slice Av n cv] 24 (0, 0)) := ((hg5.block ob (by omega) (fun e => by have := (HOS.out.lt _ e.symm).1; omega)).trans (((Below.refl w9.heap.size w9).alloc (Nat.le_refl _) _).block ob (by have := HSZ.out; omega))).trans HZ9.out
              have hb5 : Below ob w3 w5 := ((HBW.out.trans (HB9.out.mono (by omega))).alloc (by have := HSZ.out; omega) _).grown hg5 (by omega) (fun x hx => by have := (HOS.out.lt x hx).1; omega)
              have HON : Hid (OwnG KSign 67 w5 (ob + 1) (.slice A5 (n + 1) c5) (((a.signs.map fun s => Sg.tidyS (Sg.joinS b.signs s)) ++ ((b.signs.take k).filter fun t => !Sg.hasC a.signs t.code).map Sg.tidyS) ++ [⟨s.code, s.wide, s.high, s.even, T⟩])) := Lib.hid (by
                refine OwnG.snoc HGR.out (cs := encS (s.code, s.wide, s.high, s.even, (A8, T.length, c8))) ⟨.slice A8 T.length c8, rfl, ?_⟩ (by rw [← HNX.out]; exact hown5) hg5 ?_
                · refine (rdx_of_own len_value HO9.out).keep fun j hj => ⟨⟨by simp; omega, fun e => ?_, by have := HSZ.out; omega⟩, ?_⟩
                  · have := (HOK.out.lt j e).2
                    have := HSZ.out
                    omega
                  · exact ((Below.refl w9.heap.size w9).alloc (Nat.le_refl _) _).block j (by omega)
                · rcases hat5 with h | h
                  · exact .inl h
                  · exact .inr ⟨_, h, by simp⟩)
              have c1 : w5.cell? ⟨ob, 1, none⟩ = some (.slice Av n cv) := by simp [World.cell?, hz5]
              have z1 : w5.frozen? ⟨ob, 1, none⟩ = false := by simp [World.frozen?, hz5]
              obtain ⟨w6, hw6⟩ : ∃ w6, w6 = w5.setCell ⟨ob, 1, none⟩ (.slice A5 (n + 1) c5) := ⟨_, rfl⟩
              have HZ6 : Hid (w6.heap[ob]? = some (.cells #[.int .i64 pm, .slice A5 (n + 1) c5] 24 (0, 0))) := Lib.hid (by rw [hw6]; exact gset hz5 _)
              have HB6 : Hid (Below ob w3 w6) := Lib.hid (by rw [hw6]; exact hb5.setCell (Nat.le_refl _) _)
              have HO6 : Hid (OwnG KSign 67 w6 (ob + 1) (.slice A5 (n + 1) c5) (((a.signs.map fun s => Sg.tidyS (Sg.joinS b.signs s)) ++ ((b.signs.take k).filter fun t => !Sg.hasC a.signs t.code).map Sg.tidyS) ++ [⟨s.code, s.wide, s.high, s.even, T⟩])) := Lib.hid (by rw [hw6]; exact HON.out.aside (grown_set _ _ _) (by intro x hx; cases hx; show ob < _; omega))
              have HW6 := Lib.hid hw6
              clear hown5 hg5 hat5 hz5 hb5 hw6 v0 v1 v2 v3 v4
              go_upto_region 23 with fail
              rw [← HW6.out]
              clear c1 z1
              have HNE : Hid (((a.signs.map fun s => Sg.tidyS (Sg.joinS b.signs s)) ++ ((b.signs.take k).filter fun t => !Sg.hasC a.signs t.code).map Sg.tidyS) ++ [⟨s.code, s.wide, s.high, s.even, T⟩] = (a.signs.map fun s => Sg.tidyS (Sg.joinS b.signs s)) ++ ((b.signs.take (k + 1)).filter fun t => !Sg.hasC a.signs t.code).map Sg.tidyS) := Lib.hid (by
                rw [Sg.filter_next HS.out, HHC.out, List.map_append, HT.out, List.append_assoc]
                rfl)
              go_wp2_with fail
              go_roundg (b.signs.length - (k + 1))
              case measure => omega
              case rel => exact ⟨k + 1, .slice A5 (n + 1) c5, by omega, rfl, by go_num, HB6.out, HZ6.out, by rw [← HNE.out]; exact HO6.out⟩
        · have hkJ : ¬ (k : Int) < (b.signs.length : Int) := by omega
          have HOM : Hid (OwnG KSign 67 wr (ob + 1) (.slice Av n cv) (Sg.mergedL a b).signs) := Lib.hid (by
            rw [Sg.merged_signs]
            have := HOK.out
            rwa [List.take_of_length_le (by omega)] at this)
          have HPE : Hid ((Sg.mergedL a b).periods = pm) := Lib.hid HPM.out.symm
          have HFM : Hid (∀ s ∈ (Sg.mergedL a b).signs, Sg.Sign.fits s) := Lib.hid fun s hs => by
            obtain ⟨u, hu, rfl⟩ := List.mem_map.1 (show s ∈ (Sg.uniteL a.signs b.signs).map Sg.tidyS from hs)
            exact Sg.tidyS_fits (Sg.unite_texts (q := fun c => c.size ≤ maxLen) HFA.out HFB.out u hu)
          have hrl : RdSL wr wr.heap.size (.agg #[.int .i64 pm, .slice Av n cv]) (Sg.mergedL a b) := ⟨⟨_, by rw [HPE.out], HOM.out.rd.keep fun _ hb => ⟨hb.1, rfl⟩⟩, HFM.out⟩
          have HRL := Lib.hid hrl
          have HCM := Lib.hid (r1Check_any _ (Sg.mergedL a b) wr hrl)
          have hmc := Sg.merged_check HLA.out HLB.out
          obtain ⟨my, hmy⟩ : ∃ m, m = Sg.manyL (Sg.mergedL a b).signs := ⟨_, rfl⟩
          have HMY := Lib.hid hmy
          rw [hmc, ← hmy] at HCM
          obtain ⟨m0', m1', -, -⟩ := cells2 HZ.out
          clear hrl hmc hmy
          go_wp2_with fail
          refine HCM.out.mono ?_
          rintro e wz ⟨rfl, hbz⟩
          have HBWZ : Hid (Below w.heap.size w wz) := Lib.hid (HWR.out.trans (hbz.mono HWR.out.size))
          have HRG := Lib.hid (HOM.out.kept hbz).rd
          obtain ⟨c0', c1', z0', z1'⟩ := CR.out wz (H1R.out.trans (hbz.mono H1R.out.size))
          obtain ⟨m0, m1, -, -⟩ := cells2 ((hbz.block ob hlt3).trans HZ.out)
          clear hbz m0' m1' y1
          cases my
          · have HN : Hid (re = 0 ∧ rl = Sg.mergedL a b) := Lib.hid (by
              have := Sg.merge_done (a := a) (b := b) HLA.out HLB.out HCB2.out HMY.out.symm
              rw [HRE.out.1, HRE.out.2] at this
              exact this)
            go_wp2_with fail
            refine bodyPost_ret (v := .tuple #[.agg #[.int .i64 pm, .slice Av n cv], .int .i64 0]) (by simp [results, Tryz.results49, go_sem, c0', c1']) rfl ?_
            rw [HN.out.1, HN.out.2]
            refine ⟨_, rfl, ?_, (HBWZ.out.setCell (by show w.heap.size ≤ w.heap.size + 2; omega) _).setCell (by show w.heap.size ≤ w.heap.size + 2; omega) _⟩
            refine ⟨⟨_, by rw [HPE.out], HRG.out.keep fun j hj => ⟨by simp [World.setCell]; omega, ?_⟩⟩, HFM.out⟩
            rw [Below.heap_setCell _ ⟨w.heap.size + 2, 1, none⟩ _ _ (by show j ≠ w.heap.size + 2; omega), Below.heap_setCell _ ⟨w.heap.size + 2, 0, none⟩ _ _ (by show j ≠ w.heap.size + 2; omega)]
          · have HN : Hid (re = 2 ∧ rl = Sg.noL) := Lib.hid (by
              have := Sg.merge_many (a := a) (b := b) HLA.out HLB.out HCB2.out HMY.out.symm
              rw [HRE.out.1, HRE.out.2] at this
              exact this)
            go_wp2_with fail
            refine bodyPost_ret (v := .tuple #[.agg #[.int .i64 0, .slice none 0 0], .int .i64 2]) (by simp [results, Tryz.results49, go_sem, c0', c1']) rfl ?_
            exact RetListE.zero HN.out.2 HN.out.1 ((HBWZ.out.setCell (by show w.heap.size ≤ w.heap.size + 2; omega) _).setCell (by show w.heap.size ≤ w.heap.size + 2; omega) _)
end Go.Proofs.YtkmimjngmfdpmaaGreatDoor
namespace Go.Proofs.YtkmimjngmfdpmaaGreatDoor
open Go Go.RowKit
theorem r1Same_twin (v v' : Value) (l : Sg.SList) (w : World) (ha : RdSL w w.heap.size v l) (hb : RdSL w w.heap.size v' l) : Calls Tryz.prog 23 #[v, v'] w (RetBB true w) := by
  refine (r1Same_any v v' l l w ha hb).mono ?_
  rintro e w' ⟨q, rfl, hq, hb⟩
  have : q = true := hq.2 ⟨rfl, rfl⟩
  subst this
  exact ⟨rfl, hb⟩
theorem no_str {w : World} {g o : Nat} {p : Int} {s : ByteArray} (hz : w.heap[g]? = some (.cells #[.int .i64 p, .slice none 0 0] 24 (0, 0))) : w.cell? ⟨g, o, none⟩ ≠ some (.string s) := by
  intro h
  simp only [World.cell?, hz] at h
  match o with
  | 0 => simp at h
  | 1 => simp at h
  | o + 2 => simp at h
theorem rdx_off {w : World} {ok : Nat → Prop} {g : Nat} {p : Int} {v : Value} {xs : List Sg.Value} (hz : w.heap[g]? = some (.cells #[.int .i64 p, .slice none 0 0] 24 (0, 0))) (h : RdX w ok 4 encValue v xs) : RdX w (fun b => ok b ∧ b ≠ g) 4 encValue v xs := by
  obtain ⟨A, c, hv, hl, hc, hh⟩ := h
  refine ⟨A, c, hv, hl, hc, fun h0 => ?_⟩
  obtain ⟨b, off, hA, hb, hcell⟩ := hh h0
  refine ⟨b, off, hA, ⟨hb, fun e => ?_⟩, hcell⟩
  subst e
  exact no_str hz (hcell 0 _ (List.getElem?_eq_getElem h0) 1 _ rfl)
theorem rdg_off {w : World} {ok : Nat → Prop} {g : Nat} {p : Int} {v : Value} {xs : List Sg.Sign} (hz : w.heap[g]? = some (.cells #[.int .i64 p, .slice none 0 0] 24 (0, 0))) (h : RdG KSign w ok v xs) : RdG KSign w (fun b => ok b ∧ b ≠ g) v xs := by
  obtain ⟨A, c, hv, hl, hc, hh⟩ := h
  refine ⟨A, c, hv, hl, hc, fun h0 => ?_⟩
  obtain ⟨b, off, hA, hb, hcell⟩ := hh h0
  refine ⟨b, off, hA, ⟨hb, fun e => ?_⟩, fun i a ha => ?_⟩
  · subst e
    obtain ⟨cs, ⟨u, rfl, -⟩, hc⟩ := hcell 0 _ (List.getElem?_eq_getElem h0)
    exact no_str hz (hc 0 _ rfl)
  · obtain ⟨cs, ⟨u, hu, hx⟩, hc⟩ := hcell i a ha
    exact ⟨cs, ⟨u, hu, rdx_off hz hx⟩, hc⟩
/-- a list's box is written: the list that it holds is as it was -/
theorem rdsl_box {w : World} {g : Nat} {p : Int} {v u0 u1 : Value} {l : Sg.SList} (hz : w.heap[g]? = some (.cells #[.int .i64 p, .slice none 0 0] 24 (0, 0))) (h : RdSL w w.heap.size v l) :
    RdSL ((w.setCell ⟨g, 0, none⟩ u0).setCell ⟨g, 1, none⟩ u1) ((w.setCell ⟨g, 0, none⟩ u0).setCell ⟨g, 1, none⟩ u1).heap.size v l := by
  obtain ⟨⟨u, rfl, hg⟩, hf⟩ := h
  refine ⟨⟨u, rfl, (rdg_off hz hg).keep fun b hb => ⟨by simp [World.setCell]; exact hb.1, ?_⟩⟩, hf⟩
  rw [Below.heap_setCell _ ⟨g, 1, none⟩ _ _ (by exact hb.2), Below.heap_setCell _ ⟨g, 0, none⟩ _ _ (by exact hb.2)]
theorem box_heap {w : World} {g : Nat} {p : Int} {u0 u1 : Value} (hz : w.heap[g]? = some (.cells #[.int .i64 p, .slice none 0 0] 24 (0, 0))) : ((w.setCell ⟨g, 0, none⟩ u0).setCell ⟨g, 1, none⟩ u1).heap[g]? = some (.cells #[u0, u1] 24 (0, 0)) := by
  rw [gset (gset hz u0) u1]
  rfl
structure LmeR (T0 : Array Value) (W0 : World) (a' b' ML : Sg.SList) (er : Int) (A0 A1 : Option Addr) (c0 c1 : Nat) (xb yb : Nat) (d : Array Bool) (t : Array Value) (wc : World) : Prop where
  bel : Below W0.heap.size W0 wc
  siz : t.size = 41
  kp : ∀ i, i ∉ ([5, 6, 16, 17, 18, 19, 20, 21, 22, 23] : List Nat) → t[i]? = T0[i]?
  k2 : t[2]? = some (.pointer (some ⟨xb, 0, none⟩))
  k3 : t[3]? = some (.pointer (some ⟨yb, 0, none⟩))
  p0 : dn d 0 → t[17]? = some (.agg #[.int .i64 a'.periods, .slice A0 a'.signs.length c0])
  p2 : dn d 2 → t[19]? = some (.agg #[.int .i64 b'.periods, .slice A1 b'.signs.length c1])
  p5 : dn d 5 → ∃ v, t[16]? = some v ∧ ∃ y, v = .tuple #[y, .int .i64 er]
  p7 : dn d 7 → t[23]? = some (.int .i64 er)
  p10 : dn d 10 → t[6]? = some (.int .i64 er)
  l1 : dn d 1 → dn d 0
  l3 : dn d 3 → dn d 2
  l4 : dn d 4 → dn d 1 ∧ dn d 3
  l5 : dn d 5 → dn d 4
  l6 : dn d 6 → dn d 5
  l9 : dn d 9 → dn d 6 ∧ dn d 8
  c1 : dn d 1 → ¬ dn d 4 → ∃ v, t[18]? = some v ∧ RdSL wc wc.heap.size v a'
  c3 : dn d 3 → ¬ dn d 4 → ∃ v, t[20]? = some v ∧ RdSL wc wc.heap.size v b'
  c4 : dn d 4 → ¬ dn d 9 → ∃ v, t[21]? = some (.tuple #[v, .int .i64 er]) ∧ RdSL wc wc.heap.size v ML
  c5 : dn d 5 → ¬ dn d 9 → ∃ v, t[16]? = some (.tuple #[v, .int .i64 er]) ∧ RdSL wc wc.heap.size v ML
  c6 : dn d 6 → ¬ dn d 9 → ∃ v, t[22]? = some v ∧ RdSL wc wc.heap.size v ML
  c8 : dn d 8 → ¬ dn d 9 → ∃ g, t[5]? = some (.pointer (some ⟨g, 0, none⟩)) ∧ W0.heap.size ≤ g ∧ wc.heap[g]? = some (.cells #[.int .i64 0, .slice none 0 0] 24 (0, 0))
  c9 : dn d 9 → ∃ g A c, t[5]? = some (.pointer (some ⟨g, 0, none⟩)) ∧ W0.heap.size ≤ g ∧ wc.heap[g]? = some (.cells #[.int .i64 ML.periods, .slice A ML.signs.length c] 24 (0, 0)) ∧ RdSL wc wc.heap.size (.agg #[.int .i64 ML.periods, .slice A ML.signs.length c]) ML
def LmeI (T0 : Array Value) (W0 : World) (a' b' ML : Sg.SList) (er : Int) (A0 A1 : Option Addr) (c0 c1 : Nat) (xb yb : Nat) (d : Array Bool) (a : Act) (wc : World) : Prop := ∃ t : Array Value, a = ⟨t, []⟩ ∧ LmeR T0 W0 a' b' ML er A0 A1 c0 c1 xb yb d t wc
set_option maxRecDepth 100000 in
set_option maxHeartbeats 8000000 in
theorem SignsMerges_any (v v' : Value) (a b : Sg.SList) (w : World) (hr : RdSL w w.heap.size v a) (hr' : RdSL w w.heap.size v' b) (hg : Glob w) (ht : GTab w) : Calls Tryz.prog 14 #[v, v'] w (RetBB true w) := by
  have HRA := Lib.hid fun (W : World) (hW : Below w.heap.size w W) => hr.on hW
  have HRB := Lib.hid fun (W : World) (hW : Below w.heap.size w W) => hr'.on hW
  have HWK := Lib.hid fun (W : World) (hW : Below w.heap.size w W) => works1_any W (hg.below hW) (ht.below hW)
  obtain ⟨⟨u, rfl, hgl⟩, hf⟩ := hr
  obtain ⟨⟨u', rfl, hgl'⟩, hf'⟩ := hr'
  obtain ⟨A0, c0, rfl⟩ := hgl.form
  obtain ⟨A1, c1, rfl⟩ := hgl'.form
  obtain ⟨W1, hW1⟩ : ∃ W1, W1 = (w.alloc (.cells #[.int .i64 a.periods, .slice A0 a.signs.length c0] 24)).alloc (.cells #[.int .i64 b.periods, .slice A1 b.signs.length c1] 24) := ⟨_, rfl⟩
  have hb1 : Below w.heap.size w W1 := by rw [hW1]; exact ((Below.refl _ _).alloc (Nat.le_refl _) _).alloc (by simp) _
  have hX : W1.heap[w.heap.size]? = some (.cells #[.int .i64 a.periods, .slice A0 a.signs.length c0] 24 (0, 0)) := by rw [hW1]; exact start_fst w _ _
  have hY : W1.heap[w.heap.size + 1]? = some (.cells #[.int .i64 b.periods, .slice A1 b.signs.length c1] 24 (0, 0)) := by rw [hW1]; exact start_res' w _ _
  have hs1 : w.heap.size + 1 < W1.heap.size := (Array.getElem?_eq_some_iff.1 hY).1
  have CX : Hid (∀ W, Below W1.heap.size W1 W → W.cell? ⟨w.heap.size, 0, none⟩ = some (.int .i64 a.periods) ∧ W.cell? ⟨w.heap.size, 1, none⟩ = some (.slice A0 a.signs.length c0) ∧ W.cell? ⟨w.heap.size + 1, 0, none⟩ = some (.int .i64 b.periods) ∧ W.cell? ⟨w.heap.size + 1, 1, none⟩ = some (.slice A1 b.signs.length c1)) := Lib.hid fun W hW => by
    have p := (hW.block _ (by omega)).trans hX
    have p' := (hW.block _ hs1).trans hY
    exact ⟨by simp [World.cell?, p], by simp [World.cell?, p], by simp [World.cell?, p'], by simp [World.cell?, p']⟩
  obtain ⟨x0, x1, x2, x3⟩ := CX.out W1 (Below.refl _ _)
  have HB1 := Lib.hid hb1
  have HW1 := Lib.hid hW1
  have HBG := Lib.hid (l1Big_any _ a W1 (HRA.out W1 hb1))
  have HBG2 := Lib.hid fun (W : World) (hW : Below w.heap.size w W) => l1Big_any _ b W (HRB.out W hW)
  clear hgl hf hgl' hf' hW1 hb1 hX hY hg ht
  cases hbig : Sg.bigV a
  case true =>
    rw [hbig] at HBG
    clear hbig
    go_enter Tryz.func14, Tryz.ntmps14
    go_upto_region 1 with fail
    rw [← HW1.out]
    go_wp2_with fail
    refine HBG.out.mono ?_
    rintro e w2 ⟨rfl, hb2⟩
    have HB2 := Lib.hid (HB1.out.trans (hb2.mono (by omega)))
    clear hb2
    go_wp2_with fail
    refine (HWK.out _ HB2.out).mono ?_
    rintro e w3 ⟨rfl, hb3⟩
    have HB3 := Lib.hid (HB2.out.trans (hb3.mono HB2.out.size))
    clear hb3
    go_wp2_with fail
    go_ret
    exact ⟨rfl, HB3.out⟩
  rw [hbig] at HBG
  have HSA := Lib.hid (Sg.big_small hbig).1
  clear hbig
  cases hbig : Sg.bigV b
  case true =>
    rw [hbig] at HBG2
    clear hbig
    go_enter Tryz.func14, Tryz.ntmps14
    go_upto_region 1 with fail
    rw [← HW1.out]
    go_wp2_with fail
    refine HBG.out.mono ?_
    rintro e w2 ⟨rfl, hb2⟩
    have HB2 := Lib.hid (HB1.out.trans (hb2.mono (by omega)))
    clear x0 x1 x2 x3
    obtain ⟨x0, x1, x2, x3⟩ := CX.out w2 hb2
    clear hb2
    go_wp2_with fail
    refine (HBG2.out w2 HB2.out).mono ?_
    rintro e w3 ⟨rfl, hb3⟩
    have HB3 := Lib.hid (HB2.out.trans (hb3.mono HB2.out.size))
    clear hb3
    go_wp2_with fail
    refine (HWK.out _ HB3.out).mono ?_
    rintro e w4 ⟨rfl, hb4⟩
    have HB4 := Lib.hid (HB3.out.trans (hb4.mono HB3.out.size))
    clear hb4
    go_wp2_with fail
    go_ret
    exact ⟨rfl, HB4.out⟩
  rw [hbig] at HBG2
  have HSB := Lib.hid (Sg.big_small hbig).1
  clear hbig
  go_enter Tryz.func14, Tryz.ntmps14
  go_upto_region 1 with fail
  rw [← HW1.out]
  go_wp2_with fail
  refine HBG.out.mono ?_
  rintro e w1 ⟨rfl, hb⟩
  have HBa := Lib.hid (HB1.out.trans (hb.mono (by omega)))
  have H1a := Lib.hid hb
  clear x0 x1 x2 x3
  obtain ⟨x0, x1, x2, x3⟩ := CX.out w1 hb
  clear hb
  go_wp2_with fail
  refine (HBG2.out w1 HBa.out).mono ?_
  rintro e w2 ⟨rfl, hb2⟩
  have HB2 := Lib.hid (HBa.out.trans (hb2.mono HBa.out.size))
  have H12 := Lib.hid (H1a.out.trans (hb2.mono H1a.out.size))
  have hs2 := H12.out.size
  obtain ⟨ML, hML⟩ : ∃ L, L = Sg.mergeL a b := ⟨_, rfl⟩
  obtain ⟨er, her⟩ : ∃ e, e = Sg.mergeE a b := ⟨_, rfl⟩
  have HBX := Lib.hid fun (W : World) (hW : Below w2.heap.size w2 W) => HB2.out.trans (hW.mono HB2.out.size)
  have HMGa := Lib.hid fun (W : World) (_ : Below w2.heap.size w2 W) (y y' : Value) (hy : RdSL W W.heap.size y a) (hy' : RdSL W W.heap.size y' b) => gMerge_any y y' a b W hy hy'
  have HRM := Lib.hid fun (W : World) (hW : Below w.heap.size w W) => r1Merge_any _ _ a b W (HRA.out W hW) (HRB.out W hW)
  rw [← hML, ← her] at HMGa HRM
  have HCPAa := Lib.hid fun (W : World) (hW : Below w2.heap.size w2 W) => r1Copy_any _ a W (HRA.out W (HBX.out W hW)) HSA.out
  have HCPBa := Lib.hid fun (W : World) (hW : Below w2.heap.size w2 W) => r1Copy_any _ b W (HRB.out W (HBX.out W hW)) HSB.out
  clear hML her
  obtain ⟨yb, hyb⟩ : ∃ yb, yb = w.heap.size + 1 := ⟨_, rfl⟩
  have HYB := Lib.hid hyb
  have CLa := Lib.hid fun (W : World) (hW : Below w2.heap.size w2 W) => CX.out W (H12.out.trans (hW.mono hs2))
  rw [← hyb] at CLa
  clear hyb
  go_upto_region 3 with fail
  rw [← HYB.out]
  clear x0 x1 x2 x3
  refine wp_region_inv2T (fun T0 => LmeI T0 w2 a b ML er A0 A1 c0 c1 w.heap.size yb) (by kernel_rfl) (by kernel_rfl) ?g0a ?gstepa ?genda
  case g0a =>
    have hno : ∀ j, ¬ dn (Array.replicate 11 false) j := by
      intro j; unfold dn; by_cases hj : j < 11 <;> simp [Array.getD, hj]
    have na : ∀ {j : Nat} {Z : Prop}, dn (Array.replicate 11 false) j → Z := fun hj => absurd hj (hno _)
    exact ⟨_, rfl, { bel := (Below.refl _ _).drew, siz := rfl, kp := fun _ _ => rfl, k2 := rfl, k3 := rfl, p0 := na, p2 := na, p5 := fun hj => absurd hj (hno _), p7 := na, p10 := na, l1 := fun hj => absurd hj (hno _), l3 := fun hj => absurd hj (hno _), l4 := fun hj => absurd hj (hno _), l5 := fun hj => absurd hj (hno _), l6 := fun hj => absurd hj (hno _), l9 := fun hj => absurd hj (hno _), c1 := fun hj => absurd hj (hno _), c3 := fun hj => absurd hj (hno _), c4 := fun hj => absurd hj (hno _), c5 := fun hj => absurd hj (hno _), c6 := fun hj => absurd hj (hno _), c8 := fun hj => absurd hj (hno _), c9 := fun hj => absurd hj (hno _) }⟩
  case gstepa =>
    intro T0 d a wc i hd hI hi
    obtain ⟨hlt, hnd, hpre⟩ := mem_ready hi
    have hd' : d.size = 11 := hd
    have hin : i < 11 := hlt
    clear hi hd hlt
    obtain ⟨t, rfl, h⟩ := hI
    have hcs : i = 0 ∨ i = 1 ∨ i = 2 ∨ i = 3 ∨ i = 4 ∨ i = 5 ∨ i = 6 ∨ i = 7 ∨ i = 8 ∨ i = 9 ∨ i = 10 := by omega
    rcases hcs with rfl | rfl | rfl | rfl | rfl | rfl | rfl | rfl | rfl | rfl | rfl
    · have hi : 0 < d.size := by omega
      have q2 := h.k2
      obtain ⟨m0, m1, m2, m3⟩ := CLa.out wc h.bel
      refine wpOp_plain rfl rfl ?_
      go_simp
      exact ⟨_, rfl, { bel := h.bel, siz := (by simpa using h.siz), kp := rk h.kp, k2 := rs h.k2, k3 := rs h.k3, l1 := fun hj => absurd (h.l1 (dn_of hi hj (by decide))) (not_dn hi hnd), l3 := fun hj => dn_up (h.l3 (dn_of hi hj (by decide))), l4 := fun hj => (fun q => ⟨dn_up q.1, dn_up q.2⟩) (h.l4 (dn_of hi hj (by decide))), l5 := fun hj => dn_up (h.l5 (dn_of hi hj (by decide))), l6 := fun hj => dn_up (h.l6 (dn_of hi hj (by decide))), l9 := fun hj => (fun q => ⟨dn_up q.1, dn_up q.2⟩) (h.l9 (dn_of hi hj (by decide))), c1 := fun hj hk => by obtain ⟨v, e, r⟩ := h.c1 (dn_of hi hj (by decide)) (fun q => hk (dn_up q)); exact ⟨v, (set_other (by decide)).trans e, r⟩, c3 := fun hj hk => by obtain ⟨v, e, r⟩ := h.c3 (dn_of hi hj (by decide)) (fun q => hk (dn_up q)); exact ⟨v, (set_other (by decide)).trans e, r⟩, c4 := fun hj hk => by obtain ⟨v, e, r⟩ := h.c4 (dn_of hi hj (by decide)) (fun q => hk (dn_up q)); exact ⟨v, (set_other (by decide)).trans e, r⟩, c5 := fun hj hk => by obtain ⟨v, e, r⟩ := h.c5 (dn_of hi hj (by decide)) (fun q => hk (dn_up q)); exact ⟨v, (set_other (by decide)).trans e, r⟩, c6 := fun hj hk => by obtain ⟨v, e, r⟩ := h.c6 (dn_of hi hj (by decide)) (fun q => hk (dn_up q)); exact ⟨v, (set_other (by decide)).trans e, r⟩, c8 := fun hj hk => by obtain ⟨g, e, hg, hz⟩ := h.c8 (dn_of hi hj (by decide)) (fun q => hk (dn_up q)); exact ⟨g, (set_other (by decide)).trans e, hg, hz⟩, c9 := fun hj => absurd (h.l1 (h.l4 (h.l5 (h.l6 (h.l9 (dn_of hi hj (by decide))).1))).1) (not_dn hi hnd), p0 := fun _ => set_same (by have := h.siz; omega), p2 := rp hi h.p2, p5 := rc hi h.p5 (fun v h2 => h2), p7 := rp hi h.p7, p10 := rp hi h.p10 }⟩
    · have hi : 1 < d.size := by omega
      have d0 : dn d 0 := hpre _ rfl ⟨0, .data⟩ (by simp) rfl
      have e0 := h.p0 d0
      refine wpOp_plain rfl rfl ?_
      go_simp
      refine (HCPAa.out wc h.bel).mono ?_
      rintro e1 w1 ⟨y1, rfl, hq1, hb⟩
      exact ⟨_, rfl, { bel := h.bel.trans (hb.mono h.bel.size), siz := (by simpa using h.siz), kp := rk h.kp, k2 := rs h.k2, k3 := rs h.k3, l1 := fun _ => dn_up (hpre _ rfl ⟨0, .data⟩ (by simp) rfl), l3 := fun hj => dn_up (h.l3 (dn_of hi hj (by decide))), l4 := fun hj => absurd (h.l4 (dn_of hi hj (by decide))).1 (not_dn hi hnd), l5 := fun hj => dn_up (h.l5 (dn_of hi hj (by decide))), l6 := fun hj => dn_up (h.l6 (dn_of hi hj (by decide))), l9 := fun hj => (fun q => ⟨dn_up q.1, dn_up q.2⟩) (h.l9 (dn_of hi hj (by decide))), c1 := fun _ _ => ⟨_, set_same (by have := h.siz; omega), hq1⟩, c3 := fun hj hk => by obtain ⟨v, e, r⟩ := h.c3 (dn_of hi hj (by decide)) (fun q => hk (dn_up q)); exact ⟨v, (set_other (by decide)).trans e, r.on hb⟩, c4 := fun hj hk => by obtain ⟨v, e, r⟩ := h.c4 (dn_of hi hj (by decide)) (fun q => hk (dn_up q)); exact ⟨v, (set_other (by decide)).trans e, r.on hb⟩, c5 := fun hj hk => by obtain ⟨v, e, r⟩ := h.c5 (dn_of hi hj (by decide)) (fun q => hk (dn_up q)); exact ⟨v, (set_other (by decide)).trans e, r.on hb⟩, c6 := fun hj hk => by obtain ⟨v, e, r⟩ := h.c6 (dn_of hi hj (by decide)) (fun q => hk (dn_up q)); exact ⟨v, (set_other (by decide)).trans e, r.on hb⟩, c8 := fun hj hk => by obtain ⟨g, e, hg, hz⟩ := h.c8 (dn_of hi hj (by decide)) (fun q => hk (dn_up q)); exact ⟨g, (set_other (by decide)).trans e, hg, (hb.block g (Array.getElem?_eq_some_iff.1 hz).1).trans hz⟩, c9 := fun hj => absurd ((h.l4 (h.l5 (h.l6 (h.l9 (dn_of hi hj (by decide))).1))).1) (not_dn hi hnd), p0 := rp hi h.p0, p2 := rp hi h.p2, p5 := rc hi h.p5 (fun v h2 => h2), p7 := rp hi h.p7, p10 := rp hi h.p10 }⟩
    · have hi : 2 < d.size := by omega
      have q3 := h.k3
      obtain ⟨m0, m1, m2, m3⟩ := CLa.out wc h.bel
      refine wpOp_plain rfl rfl ?_
      go_simp
      exact ⟨_, rfl, { bel := h.bel, siz := (by simpa using h.siz), kp := rk h.kp, k2 := rs h.k2, k3 := rs h.k3, l1 := fun hj => dn_up (h.l1 (dn_of hi hj (by decide))), l3 := fun hj => absurd (h.l3 (dn_of hi hj (by decide))) (not_dn hi hnd), l4 := fun hj => (fun q => ⟨dn_up q.1, dn_up q.2⟩) (h.l4 (dn_of hi hj (by decide))), l5 := fun hj => dn_up (h.l5 (dn_of hi hj (by decide))), l6 := fun hj => dn_up (h.l6 (dn_of hi hj (by decide))), l9 := fun hj => (fun q => ⟨dn_up q.1, dn_up q.2⟩) (h.l9 (dn_of hi hj (by decide))), c1 := fun hj hk => by obtain ⟨v, e, r⟩ := h.c1 (dn_of hi hj (by decide)) (fun q => hk (dn_up q)); exact ⟨v, (set_other (by decide)).trans e, r⟩, c3 := fun hj hk => by obtain ⟨v, e, r⟩ := h.c3 (dn_of hi hj (by decide)) (fun q => hk (dn_up q)); exact ⟨v, (set_other (by decide)).trans e, r⟩, c4 := fun hj hk => by obtain ⟨v, e, r⟩ := h.c4 (dn_of hi hj (by decide)) (fun q => hk (dn_up q)); exact ⟨v, (set_other (by decide)).trans e, r⟩, c5 := fun hj hk => by obtain ⟨v, e, r⟩ := h.c5 (dn_of hi hj (by decide)) (fun q => hk (dn_up q)); exact ⟨v, (set_other (by decide)).trans e, r⟩, c6 := fun hj hk => by obtain ⟨v, e, r⟩ := h.c6 (dn_of hi hj (by decide)) (fun q => hk (dn_up q)); exact ⟨v, (set_other (by decide)).trans e, r⟩, c8 := fun hj hk => by obtain ⟨g, e, hg, hz⟩ := h.c8 (dn_of hi hj (by decide)) (fun q => hk (dn_up q)); exact ⟨g, (set_other (by decide)).trans e, hg, hz⟩, c9 := fun hj => absurd (h.l3 (h.l4 (h.l5 (h.l6 (h.l9 (dn_of hi hj (by decide))).1))).2) (not_dn hi hnd), p0 := rp hi h.p0, p2 := fun _ => set_same (by have := h.siz; omega), p5 := rc hi h.p5 (fun v h2 => h2), p7 := rp hi h.p7, p10 := rp hi h.p10 }⟩
    · have hi : 3 < d.size := by omega
      have d2 : dn d 2 := hpre _ rfl ⟨2, .data⟩ (by simp) rfl
      have e2 := h.p2 d2
      refine wpOp_plain rfl rfl ?_
      go_simp
      refine (HCPBa.out wc h.bel).mono ?_
      rintro e1 w1 ⟨y1, rfl, hq1, hb⟩
      exact ⟨_, rfl, { bel := h.bel.trans (hb.mono h.bel.size), siz := (by simpa using h.siz), kp := rk h.kp, k2 := rs h.k2, k3 := rs h.k3, l1 := fun hj => dn_up (h.l1 (dn_of hi hj (by decide))), l3 := fun _ => dn_up (hpre _ rfl ⟨2, .data⟩ (by simp) rfl), l4 := fun hj => absurd (h.l4 (dn_of hi hj (by decide))).2 (not_dn hi hnd), l5 := fun hj => dn_up (h.l5 (dn_of hi hj (by decide))), l6 := fun hj => dn_up (h.l6 (dn_of hi hj (by decide))), l9 := fun hj => (fun q => ⟨dn_up q.1, dn_up q.2⟩) (h.l9 (dn_of hi hj (by decide))), c1 := fun hj hk => by obtain ⟨v, e, r⟩ := h.c1 (dn_of hi hj (by decide)) (fun q => hk (dn_up q)); exact ⟨v, (set_other (by decide)).trans e, r.on hb⟩, c3 := fun _ _ => ⟨_, set_same (by have := h.siz; omega), hq1⟩, c4 := fun hj hk => by obtain ⟨v, e, r⟩ := h.c4 (dn_of hi hj (by decide)) (fun q => hk (dn_up q)); exact ⟨v, (set_other (by decide)).trans e, r.on hb⟩, c5 := fun hj hk => by obtain ⟨v, e, r⟩ := h.c5 (dn_of hi hj (by decide)) (fun q => hk (dn_up q)); exact ⟨v, (set_other (by decide)).trans e, r.on hb⟩, c6 := fun hj hk => by obtain ⟨v, e, r⟩ := h.c6 (dn_of hi hj (by decide)) (fun q => hk (dn_up q)); exact ⟨v, (set_other (by decide)).trans e, r.on hb⟩, c8 := fun hj hk => by obtain ⟨g, e, hg, hz⟩ := h.c8 (dn_of hi hj (by decide)) (fun q => hk (dn_up q)); exact ⟨g, (set_other (by decide)).trans e, hg, (hb.block g (Array.getElem?_eq_some_iff.1 hz).1).trans hz⟩, c9 := fun hj => absurd ((h.l4 (h.l5 (h.l6 (h.l9 (dn_of hi hj (by decide))).1))).2) (not_dn hi hnd), p0 := rp hi h.p0, p2 := rp hi h.p2, p5 := rc hi h.p5 (fun v h2 => h2), p7 := rp hi h.p7, p10 := rp hi h.p10 }⟩
    · have hi : 4 < d.size := by omega
      have hn4 := not_dn hi hnd
      have d1 : dn d 1 := hpre _ rfl ⟨1, .data⟩ (by simp) rfl
      have d3 : dn d 3 := hpre _ rfl ⟨3, .data⟩ (by simp) rfl
      obtain ⟨v1, e1, r1⟩ := h.c1 d1 hn4
      obtain ⟨v3, e3, r3⟩ := h.c3 d3 hn4
      refine wpOp_plain rfl rfl ?_
      go_simp
      refine (HMGa.out wc h.bel v1 v3 r1 r3).mono ?_
      rintro e1 w1 ⟨y1, rfl, hq1, hb⟩
      exact ⟨_, rfl, { bel := h.bel.trans (hb.mono h.bel.size), siz := (by simpa using h.siz), kp := rk h.kp, k2 := rs h.k2, k3 := rs h.k3, l1 := fun hj => dn_up (h.l1 (dn_of hi hj (by decide))), l3 := fun hj => dn_up (h.l3 (dn_of hi hj (by decide))), l4 := fun _ => ⟨dn_up (hpre _ rfl ⟨1, .data⟩ (by simp) rfl), dn_up (hpre _ rfl ⟨3, .data⟩ (by simp) rfl)⟩, l5 := fun hj => absurd (h.l5 (dn_of hi hj (by decide))) (not_dn hi hnd), l6 := fun hj => dn_up (h.l6 (dn_of hi hj (by decide))), l9 := fun hj => (fun q => ⟨dn_up q.1, dn_up q.2⟩) (h.l9 (dn_of hi hj (by decide))), c1 := fun _ hk => absurd (dn_self hi) hk, c3 := fun _ hk => absurd (dn_self hi) hk, c4 := fun _ _ => ⟨_, set_same (by have := h.siz; omega), hq1⟩, c5 := fun hj hk => by obtain ⟨v, e, r⟩ := h.c5 (dn_of hi hj (by decide)) (fun q => hk (dn_up q)); exact ⟨v, (set_other (by decide)).trans e, r.on hb⟩, c6 := fun hj hk => by obtain ⟨v, e, r⟩ := h.c6 (dn_of hi hj (by decide)) (fun q => hk (dn_up q)); exact ⟨v, (set_other (by decide)).trans e, r.on hb⟩, c8 := fun hj hk => by obtain ⟨g, e, hg, hz⟩ := h.c8 (dn_of hi hj (by decide)) (fun q => hk (dn_up q)); exact ⟨g, (set_other (by decide)).trans e, hg, (hb.block g (Array.getElem?_eq_some_iff.1 hz).1).trans hz⟩, c9 := fun hj => absurd (h.l5 (h.l6 (h.l9 (dn_of hi hj (by decide))).1)) (not_dn hi hnd), p0 := rp hi h.p0, p2 := rp hi h.p2, p5 := rc hi h.p5 (fun v h2 => h2), p7 := rp hi h.p7, p10 := rp hi h.p10 }⟩
    · have hi : 5 < d.size := by omega
      have d4 : dn d 4 := hpre _ rfl ⟨4, .data⟩ (by simp) rfl
      have hn9 : ¬ dn d 9 := fun q => not_dn hi hnd (h.l6 (h.l9 q).1)
      obtain ⟨v4, e4, r4⟩ := h.c4 d4 hn9
      refine wpOp_plain rfl rfl ?_
      go_simp
      exact ⟨_, rfl, { bel := h.bel, siz := (by simpa using h.siz), kp := rk h.kp, k2 := rs h.k2, k3 := rs h.k3, l1 := fun hj => dn_up (h.l1 (dn_of hi hj (by decide))), l3 := fun hj => dn_up (h.l3 (dn_of hi hj (by decide))), l4 := fun hj => (fun q => ⟨dn_up q.1, dn_up q.2⟩) (h.l4 (dn_of hi hj (by decide))), l5 := fun _ => dn_up (hpre _ rfl ⟨4, .data⟩ (by simp) rfl), l6 := fun hj => absurd (h.l6 (dn_of hi hj (by decide))) (not_dn hi hnd), l9 := fun hj => (fun q => ⟨dn_up q.1, dn_up q.2⟩) (h.l9 (dn_of hi hj (by decide))), c1 := fun hj hk => by obtain ⟨v, e, r⟩ := h.c1 (dn_of hi hj (by decide)) (fun q => hk (dn_up q)); exact ⟨v, (set_other (by decide)).trans e, r⟩, c3 := fun hj hk => by obtain ⟨v, e, r⟩ := h.c3 (dn_of hi hj (by decide)) (fun q => hk (dn_up q)); exact ⟨v, (set_other (by decide)).trans e, r⟩, c4 := fun hj hk => by obtain ⟨v, e, r⟩ := h.c4 (dn_of hi hj (by decide)) (fun q => hk (dn_up q)); exact ⟨v, (set_other (by decide)).trans e, r⟩, c5 := fun _ _ => ⟨v4, set_same (by have := h.siz; omega), r4⟩, c6 := fun hj hk => by obtain ⟨v, e, r⟩ := h.c6 (dn_of hi hj (by decide)) (fun q => hk (dn_up q)); exact ⟨v, (set_other (by decide)).trans e, r⟩, c8 := fun hj hk => by obtain ⟨g, e, hg, hz⟩ := h.c8 (dn_of hi hj (by decide)) (fun q => hk (dn_up q)); exact ⟨g, (set_other (by decide)).trans e, hg, hz⟩, c9 := fun hj => absurd (h.l6 (h.l9 (dn_of hi hj (by decide))).1) (not_dn hi hnd), p0 := rp hi h.p0, p2 := rp hi h.p2, p5 := fun _ => ⟨_, set_same (by have := h.siz; omega), ⟨_, rfl⟩⟩, p7 := rp hi h.p7, p10 := rp hi h.p10 }⟩
    · have hi : 6 < d.size := by omega
      have d5 : dn d 5 := hpre _ rfl ⟨5, .data⟩ (by simp) rfl
      have hn9 : ¬ dn d 9 := fun q => not_dn hi hnd (h.l9 q).1
      obtain ⟨v5, e5, r5⟩ := h.c5 d5 hn9
      refine wpOp_plain rfl rfl ?_
      go_simp
      exact ⟨_, rfl, { bel := h.bel, siz := (by simpa using h.siz), kp := rk h.kp, k2 := rs h.k2, k3 := rs h.k3, l1 := fun hj => dn_up (h.l1 (dn_of hi hj (by decide))), l3 := fun hj => dn_up (h.l3 (dn_of hi hj (by decide))), l4 := fun hj => (fun q => ⟨dn_up q.1, dn_up q.2⟩) (h.l4 (dn_of hi hj (by decide))), l5 := fun hj => dn_up (h.l5 (dn_of hi hj (by decide))), l6 := fun _ => dn_up (hpre _ rfl ⟨5, .data⟩ (by simp) rfl), l9 := fun hj => absurd (h.l9 (dn_of hi hj (by decide))).1 (not_dn hi hnd), c1 := fun hj hk => by obtain ⟨v, e, r⟩ := h.c1 (dn_of hi hj (by decide)) (fun q => hk (dn_up q)); exact ⟨v, (set_other (by decide)).trans e, r⟩, c3 := fun hj hk => by obtain ⟨v, e, r⟩ := h.c3 (dn_of hi hj (by decide)) (fun q => hk (dn_up q)); exact ⟨v, (set_other (by decide)).trans e, r⟩, c4 := fun hj hk => by obtain ⟨v, e, r⟩ := h.c4 (dn_of hi hj (by decide)) (fun q => hk (dn_up q)); exact ⟨v, (set_other (by decide)).trans e, r⟩, c5 := fun hj hk => by obtain ⟨v, e, r⟩ := h.c5 (dn_of hi hj (by decide)) (fun q => hk (dn_up q)); exact ⟨v, (set_other (by decide)).trans e, r⟩, c6 := fun _ _ => ⟨v5, set_same (by have := h.siz; omega), r5⟩, c8 := fun hj hk => by obtain ⟨g, e, hg, hz⟩ := h.c8 (dn_of hi hj (by decide)) (fun q => hk (dn_up q)); exact ⟨g, (set_other (by decide)).trans e, hg, hz⟩, c9 := fun hj => absurd ((h.l9 (dn_of hi hj (by decide))).1) (not_dn hi hnd), p0 := rp hi h.p0, p2 := rp hi h.p2, p5 := rc hi h.p5 (fun v h2 => h2), p7 := rp hi h.p7, p10 := rp hi h.p10 }⟩
    · have hi : 7 < d.size := by omega
      obtain ⟨v5, e5, r5⟩ := h.p5 (hpre _ rfl ⟨5, .data⟩ (by simp) rfl)
      obtain ⟨y5, rfl⟩ := r5
      refine wpOp_plain rfl rfl ?_
      go_simp
      exact ⟨_, rfl, { bel := h.bel, siz := (by simpa using h.siz), kp := rk h.kp, k2 := rs h.k2, k3 := rs h.k3, l1 := fun hj => dn_up (h.l1 (dn_of hi hj (by decide))), l3 := fun hj => dn_up (h.l3 (dn_of hi hj (by decide))), l4 := fun hj => (fun q => ⟨dn_up q.1, dn_up q.2⟩) (h.l4 (dn_of hi hj (by decide))), l5 := fun hj => dn_up (h.l5 (dn_of hi hj (by decide))), l6 := fun hj => dn_up (h.l6 (dn_of hi hj (by decide))), l9 := fun hj => (fun q => ⟨dn_up q.1, dn_up q.2⟩) (h.l9 (dn_of hi hj (by decide))), c1 := fun hj hk => by obtain ⟨v, e, r⟩ := h.c1 (dn_of hi hj (by decide)) (fun q => hk (dn_up q)); exact ⟨v, (set_other (by decide)).trans e, r⟩, c3 := fun hj hk => by obtain ⟨v, e, r⟩ := h.c3 (dn_of hi hj (by decide)) (fun q => hk (dn_up q)); exact ⟨v, (set_other (by decide)).trans e, r⟩, c4 := fun hj hk => by obtain ⟨v, e, r⟩ := h.c4 (dn_of hi hj (by decide)) (fun q => hk (dn_up q)); exact ⟨v, (set_other (by decide)).trans e, r⟩, c5 := fun hj hk => by obtain ⟨v, e, r⟩ := h.c5 (dn_of hi hj (by decide)) (fun q => hk (dn_up q)); exact ⟨v, (set_other (by decide)).trans e, r⟩, c6 := fun hj hk => by obtain ⟨v, e, r⟩ := h.c6 (dn_of hi hj (by decide)) (fun q => hk (dn_up q)); exact ⟨v, (set_other (by decide)).trans e, r⟩, c8 := fun hj hk => by obtain ⟨g, e, hg, hz⟩ := h.c8 (dn_of hi hj (by decide)) (fun q => hk (dn_up q)); exact ⟨g, (set_other (by decide)).trans e, hg, hz⟩, c9 := fun hj => by obtain ⟨g, A, c, e, hg, hz, hr⟩ := h.c9 (dn_of hi hj (by decide)); exact ⟨g, A, c, (set_other (by decide)).trans e, hg, hz, hr⟩, p0 := rp hi h.p0, p2 := rp hi h.p2, p5 := rc hi h.p5 (fun v h2 => h2), p7 := fun _ => set_same (by have := h.siz; omega), p10 := rp hi h.p10 }⟩
    · have hi : 8 < d.size := by omega
      have hn9 : ¬ dn d 9 := fun q => not_dn hi hnd (h.l9 q).2
      have hb : Below wc.heap.size wc (wc.alloc (.cells #[.int .i64 0, .slice none 0 0] 24)) := (Below.refl _ _).alloc (Nat.le_refl _) _
      refine wpOp_plain rfl rfl ?_
      go_simp
      exact ⟨_, rfl, { bel := h.bel.trans (hb.mono h.bel.size), siz := (by simpa using h.siz), kp := rk h.kp, k2 := rs h.k2, k3 := rs h.k3, l1 := fun hj => dn_up (h.l1 (dn_of hi hj (by decide))), l3 := fun hj => dn_up (h.l3 (dn_of hi hj (by decide))), l4 := fun hj => (fun q => ⟨dn_up q.1, dn_up q.2⟩) (h.l4 (dn_of hi hj (by decide))), l5 := fun hj => dn_up (h.l5 (dn_of hi hj (by decide))), l6 := fun hj => dn_up (h.l6 (dn_of hi hj (by decide))), l9 := fun hj => absurd (h.l9 (dn_of hi hj (by decide))).2 (not_dn hi hnd), c1 := fun hj hk => by obtain ⟨v, e, r⟩ := h.c1 (dn_of hi hj (by decide)) (fun q => hk (dn_up q)); exact ⟨v, (set_other (by decide)).trans e, r.on hb⟩, c3 := fun hj hk => by obtain ⟨v, e, r⟩ := h.c3 (dn_of hi hj (by decide)) (fun q => hk (dn_up q)); exact ⟨v, (set_other (by decide)).trans e, r.on hb⟩, c4 := fun hj hk => by obtain ⟨v, e, r⟩ := h.c4 (dn_of hi hj (by decide)) (fun q => hk (dn_up q)); exact ⟨v, (set_other (by decide)).trans e, r.on hb⟩, c5 := fun hj hk => by obtain ⟨v, e, r⟩ := h.c5 (dn_of hi hj (by decide)) (fun q => hk (dn_up q)); exact ⟨v, (set_other (by decide)).trans e, r.on hb⟩, c6 := fun hj hk => by obtain ⟨v, e, r⟩ := h.c6 (dn_of hi hj (by decide)) (fun q => hk (dn_up q)); exact ⟨v, (set_other (by decide)).trans e, r.on hb⟩, c8 := fun _ _ => ⟨wc.heap.size, set_same (by have := h.siz; omega), h.bel.size, heap_alloc_new _ _⟩, c9 := fun hj => absurd ((h.l9 (dn_of hi hj (by decide))).2) (not_dn hi hnd), p0 := rp hi h.p0, p2 := rp hi h.p2, p5 := rc hi h.p5 (fun v h2 => h2), p7 := rp hi h.p7, p10 := rp hi h.p10 }⟩
    · have hi : 9 < d.size := by omega
      have hn9 := not_dn hi hnd
      have d6 : dn d 6 := hpre _ rfl ⟨6, .data⟩ (by simp) rfl
      have d8 : dn d 8 := hpre _ rfl ⟨8, .data⟩ (by simp) rfl
      obtain ⟨v6, e6, r6⟩ := h.c6 d6 hn9
      obtain ⟨g, e8, hg8, hz8⟩ := h.c8 d8 hn9
      have R6 := r6
      obtain ⟨⟨u6, rfl, hg6⟩, -⟩ := r6
      obtain ⟨A6, c6, rfl⟩ := hg6.form
      have z0 : wc.cell? ⟨g, 0, none⟩ = some (.int .i64 0) := by simp [World.cell?, hz8]
      have z1 : wc.cell? ⟨g, 1, none⟩ = some (.slice none 0 0) := by simp [World.cell?, hz8]
      have y0 : wc.frozen? ⟨g, 0, none⟩ = false := by simp [World.frozen?, hz8]
      have y1 : wc.frozen? ⟨g, 1, none⟩ = false := by simp [World.frozen?, hz8]
      clear hg6
      refine wpOp_plain rfl rfl ?_
      go_simp
      exact ⟨_, rfl, { bel := (h.bel.setCell (p := ⟨g, 0, none⟩) hg8 _).setCell (p := ⟨g, 1, none⟩) hg8 _, siz := h.siz, kp := h.kp, k2 := h.k2, k3 := h.k3, l1 := fun hj => dn_up (h.l1 (dn_of hi hj (by decide))), l3 := fun hj => dn_up (h.l3 (dn_of hi hj (by decide))), l4 := fun hj => (fun q => ⟨dn_up q.1, dn_up q.2⟩) (h.l4 (dn_of hi hj (by decide))), l5 := fun hj => dn_up (h.l5 (dn_of hi hj (by decide))), l6 := fun hj => dn_up (h.l6 (dn_of hi hj (by decide))), l9 := fun _ => ⟨dn_up (hpre _ rfl ⟨6, .data⟩ (by simp) rfl), dn_up (hpre _ rfl ⟨8, .data⟩ (by simp) rfl)⟩, c1 := fun _ hk => absurd (dn_up (h.l5 (h.l6 d6))) hk, c3 := fun _ hk => absurd (dn_up (h.l5 (h.l6 d6))) hk, c4 := fun _ hk => absurd (dn_self hi) hk, c5 := fun _ hk => absurd (dn_self hi) hk, c6 := fun _ hk => absurd (dn_self hi) hk, c8 := fun _ hk => absurd (dn_self hi) hk, c9 := fun _ => ⟨g, A6, c6, e8, hg8, box_heap hz8, rdsl_box hz8 R6⟩, p0 := rn hi h.p0, p2 := rn hi h.p2, p5 := rcn hi h.p5 (fun v h2 => h2), p7 := rn hi h.p7, p10 := rn hi h.p10 }⟩
    · have hi : 10 < d.size := by omega
      have e7 := h.p7 (hpre _ rfl ⟨7, .data⟩ (by simp) rfl)
      refine wpOp_plain rfl rfl ?_
      go_simp
      exact ⟨_, rfl, { bel := h.bel, siz := (by simpa using h.siz), kp := rk h.kp, k2 := rs h.k2, k3 := rs h.k3, l1 := fun hj => dn_up (h.l1 (dn_of hi hj (by decide))), l3 := fun hj => dn_up (h.l3 (dn_of hi hj (by decide))), l4 := fun hj => (fun q => ⟨dn_up q.1, dn_up q.2⟩) (h.l4 (dn_of hi hj (by decide))), l5 := fun hj => dn_up (h.l5 (dn_of hi hj (by decide))), l6 := fun hj => dn_up (h.l6 (dn_of hi hj (by decide))), l9 := fun hj => (fun q => ⟨dn_up q.1, dn_up q.2⟩) (h.l9 (dn_of hi hj (by decide))), c1 := fun hj hk => by obtain ⟨v, e, r⟩ := h.c1 (dn_of hi hj (by decide)) (fun q => hk (dn_up q)); exact ⟨v, (set_other (by decide)).trans e, r⟩, c3 := fun hj hk => by obtain ⟨v, e, r⟩ := h.c3 (dn_of hi hj (by decide)) (fun q => hk (dn_up q)); exact ⟨v, (set_other (by decide)).trans e, r⟩, c4 := fun hj hk => by obtain ⟨v, e, r⟩ := h.c4 (dn_of hi hj (by decide)) (fun q => hk (dn_up q)); exact ⟨v, (set_other (by decide)).trans e, r⟩, c5 := fun hj hk => by obtain ⟨v, e, r⟩ := h.c5 (dn_of hi hj (by decide)) (fun q => hk (dn_up q)); exact ⟨v, (set_other (by decide)).trans e, r⟩, c6 := fun hj hk => by obtain ⟨v, e, r⟩ := h.c6 (dn_of hi hj (by decide)) (fun q => hk (dn_up q)); exact ⟨v, (set_other (by decide)).trans e, r⟩, c8 := fun hj hk => by obtain ⟨g, e, hg, hz⟩ := h.c8 (dn_of hi hj (by decide)) (fun q => hk (dn_up q)); exact ⟨g, (set_other (by decide)).trans e, hg, hz⟩, c9 := fun hj => by obtain ⟨g, A, c, e, hg, hz, hr⟩ := h.c9 (dn_of hi hj (by decide)); exact ⟨g, A, c, (set_other (by decide)).trans e, hg, hz, hr⟩, p0 := rp hi h.p0, p2 := rp hi h.p2, p5 := rc hi h.p5 (fun v h2 => h2), p7 := rp hi h.p7, p10 := fun _ => set_same (by have := h.siz; omega) }⟩
  case genda =>
    intro d a wc hd hI hall
    obtain ⟨t, rfl, h⟩ := hI
    have hdn : ∀ j, j < 11 → dn d j := fun j hj => dn_all hd hall hj
    have hd : ∀ j, (_ : j < 11 := by decide) → dn d j := fun j hj => hdn j hj
    obtain ⟨t5, x5⟩ : ∃ v, t[5]? = some v := ⟨_, Array.getElem?_eq_getElem (by have := h.siz; omega)⟩
    obtain ⟨v5, e5, r5⟩ := h.p5 (hd 5)
    obtain ⟨t18, x18⟩ : ∃ v, t[18]? = some v := ⟨_, Array.getElem?_eq_getElem (by have := h.siz; omega)⟩
    obtain ⟨t20, x20⟩ : ∃ v, t[20]? = some v := ⟨_, Array.getElem?_eq_getElem (by have := h.siz; omega)⟩
    obtain ⟨t21, x21⟩ : ∃ v, t[21]? = some v := ⟨_, Array.getElem?_eq_getElem (by have := h.siz; omega)⟩
    obtain ⟨t22, x22⟩ : ∃ v, t[22]? = some v := ⟨_, Array.getElem?_eq_getElem (by have := h.siz; omega)⟩
    obtain ⟨ga, Ga, cga, e5, hg5, hz5, hr5⟩ := h.c9 (hd 9)
    obtain rfl : t5 = .pointer (some ⟨ga, 0, none⟩) := by rw [x5] at e5; simpa using e5
    clear e5
    have hfe := frame_eq [(5, _), (6, _), (16, v5), (17, _), (18, _), (19, _), (20, _), (21, _), (22, _), (23, _)] (h.siz.trans rfl) h.kp rfl ⟨x5, h.p10 (hd 10), e5, h.p0 (hd 0), x18, h.p2 (hd 2), x20, x21, x22, h.p7 (hd 7), trivial⟩
    simp only [List.foldl_cons, List.foldl_nil, List.setIfInBounds_toArray, List.set_cons_succ, List.set_cons_zero] at hfe
    have hbc := h.bel
    subst hfe
    clear h hdn hd hall
    rename World => w3
    have HB3 : Hid (Below w.heap.size w w3) := Lib.hid (HBX.out w3 hbc)
    have H3 : Hid (Below W1.heap.size W1 w3) := Lib.hid (H12.out.trans (hbc.mono hs2))
    have HZG := Lib.hid hz5
    have HRG := Lib.hid hr5
    rw [HYB.out]
    clear hbc hg5 hz5 hr5
    obtain ⟨x0, x1, x2, x3⟩ := CX.out w3 H3.out
    go_wp2_with fail
    refine (HRM.out w3 HB3.out).mono ?_
    rintro e u4 ⟨y4, rfl, hr4, hu4⟩
    have HBU := Lib.hid (HB3.out.trans (hu4.mono HB3.out.size))
    have HRY := Lib.hid hr4
    have hz4 := (hu4.block ga (Array.getElem?_eq_some_iff.1 HZG.out).1).trans HZG.out
    have hrg4 := HRG.out.on hu4
    obtain ⟨⟨z4, rfl, hg4⟩, -⟩ := hr4
    obtain ⟨A4, c4, rfl⟩ := hg4.form
    obtain ⟨w4, hw4⟩ : ∃ W, W = u4.alloc (.cells #[.int .i64 ML.periods, .slice A4 ML.signs.length c4] 24) := ⟨_, rfl⟩
    obtain ⟨b4, hb4⟩ : ∃ b, b = u4.heap.size := ⟨_, rfl⟩
    have hbw4 : Below u4.heap.size u4 w4 := by rw [hw4]; exact (Below.refl _ _).alloc (Nat.le_refl _) _
    have hhw4 : w4.heap[b4]? = some (.cells #[.int .i64 ML.periods, .slice A4 ML.signs.length c4] 24 (0, 0)) := by rw [hw4, hb4]; exact heap_alloc_new _ _
    have hz4' := (hbw4.block ga (Array.getElem?_eq_some_iff.1 hz4).1).trans hz4
    have p0 : w4.cell? ⟨b4, 0, none⟩ = some (.int .i64 ML.periods) := by simp [World.cell?, hhw4]
    have p1 : w4.cell? ⟨b4, 1, none⟩ = some (.slice A4 ML.signs.length c4) := by simp [World.cell?, hhw4]
    have p2 : w4.cell? ⟨ga, 0, none⟩ = some (.int .i64 ML.periods) := by simp [World.cell?, hz4']
    have p3 : w4.cell? ⟨ga, 1, none⟩ = some (.slice Ga ML.signs.length cga) := by simp [World.cell?, hz4']
    have HB4 := Lib.hid (HBU.out.trans (hbw4.mono HBU.out.size))
    have HS4 := Lib.hid (r1Same_twin _ _ ML w4 (hrg4.on hbw4) (HRY.out.on hbw4))
    have HW4 := Lib.hid hw4
    have HBB := Lib.hid hb4
    clear hu4 hz4 hrg4 hg4 hw4 hb4 hbw4 hhw4 hz4' x0 x1 x2 x3
    go_upto_region 5 with fail
    rw [← HW4.out, ← HBB.out]
    go_wp2_with fail
    refine HS4.out.mono ?_
    rintro e w8 ⟨rfl, hb8⟩
    have HB8 := Lib.hid (HB4.out.trans (hb8.mono HB4.out.size))
    clear hb8 p0 p1 p2 p3
    go_wp2_with fail
    refine (HWK.out _ HB8.out).mono ?_
    rintro e wz ⟨rfl, hbz⟩
    have HBZ := Lib.hid (HB8.out.trans (hbz.mono HB8.out.size))
    clear hbz
    go_wp2_with fail
    go_ret
    exact ⟨rfl, HBZ.out⟩
end Go.Proofs.YtkmimjngmfdpmaaGreatDoor
