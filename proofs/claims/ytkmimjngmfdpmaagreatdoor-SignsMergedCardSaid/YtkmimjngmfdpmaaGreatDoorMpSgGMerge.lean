/- signs.Merge. Made by gen_gmerge.py. -/
import Derived.Test.YtkmimjngmfdpmaaGreatDoorMpSgOwnS
import Derived.Test.YtkmimjngmfdpmaaGreatDoorMpSgFind
import Derived.Test.YtkmimjngmfdpmaaGreatDoorMpTrimPlain
namespace Go.Proofs.YtkmimjngmfdpmaaGreatDoor
open Go Go.RowKit

theorem idx_at {α : Type} {p : α → Bool} {xs : List α} (h : xs.any p = true) : ∃ (i : Nat) (t : α), xs[i]? = some t ∧ p t = true ∧ idxOf p xs = (i : Int) := by
  unfold idxOf
  cases hf : xs.findIdx? p with
  | none =>
    rw [List.findIdx?_eq_none_iff] at hf
    rw [List.any_eq_true] at h
    obtain ⟨x, hx, hp⟩ := h
    rw [hf x hx] at hp
    cases hp
  | some i =>
    obtain ⟨h1, h2, -⟩ := List.findIdx?_eq_some_iff_getElem.1 hf
    exact ⟨i, xs[i], List.getElem?_eq_getElem h1, h2, rfl⟩
theorem idx_not {α : Type} {p : α → Bool} {xs : List α} (h : xs.any p = false) : idxOf p xs = -1 := idxOf_none fun j z _ hz => by
  rw [List.any_eq_false] at h
  simpa using h z (List.mem_of_getElem? hz)
theorem cells2 {w : World} {b : Nat} {v0 v1 : Value} {t : TypeId} (h : w.heap[b]? = some (.cells #[v0, v1] t (0, 0))) :
    w.cell? ⟨b, 0, none⟩ = some v0 ∧ w.cell? ⟨b, 1, none⟩ = some v1 ∧ w.frozen? ⟨b, 0, none⟩ = false ∧ w.frozen? ⟨b, 1, none⟩ = false :=
  ⟨by simp [World.cell?, h], by simp [World.cell?, h], by simp [World.frozen?, h], by simp [World.frozen?, h]⟩
theorem Sg.odd_ne {s t : Sg.Sign} (h : ¬ (s.wide = t.wide ∧ s.high = t.high ∧ s.even = t.even)) : Sg.oddS t s = true := by
  unfold Sg.oddS
  rw [Bool.not_eq_true', Bool.and_eq_false_iff, Bool.and_eq_false_iff, decide_eq_false_iff_not, decide_eq_false_iff_not, decide_eq_false_iff_not]
  by_cases h1 : s.wide = t.wide
  · by_cases h2 : s.high = t.high
    · exact .inr fun h3 => h ⟨h1, h2, h3⟩
    · exact .inl (.inr h2)
  · exact .inl (.inl h1)
theorem Sg.odd_eq {s t : Sg.Sign} (h1 : s.wide = t.wide) (h2 : s.high = t.high) (h3 : s.even = t.even) : Sg.oddS t s = false := by
  unfold Sg.oddS
  simp [h1, h2, h3]
structure GmaR (T0 : Array Value) (W0 : World) (ob sb g i nt ct ns c2 : Nat) (At A2 : Option Addr) (tl sl : List Sg.Value) (d : Array Bool) (t : Array Value) (wc : World) : Prop where
  bel : Below (ob + 1) W0 wc
  siz : t.size = 154
  kp : ∀ i, i ∉ ([106, 107, 108, 109, 110, 111, 112, 113, 114, 115] : List Nat) → t[i]? = T0[i]?
  k14 : t[14]? = some (.pointer (some ⟨g, i * 5, none⟩))
  k12 : t[12]? = some (.pointer (some ⟨sb, 0, none⟩))
  p0 : dn d 0 → t[106]? = some (.pointer (some ⟨g, i * 5, none⟩))
  p1 : dn d 1 → t[107]? = some (.pointer (some ⟨g, i * 5, none⟩))
  p2 : dn d 2 → t[108]? = some (.pointer (some ⟨g, i * 5, none⟩))
  p3 : dn d 3 → t[109]? = some (.pointer (some ⟨g, i * 5 + 4, none⟩))
  p4 : dn d 4 → t[110]? = some (.slice At nt ct)
  p5 : dn d 5 → t[111]? = some (.pointer (some ⟨sb, 4, none⟩))
  p6 : dn d 6 → t[112]? = some (.slice A2 ns c2)
  p8 : dn d 8 → t[114]? = some (.pointer (some ⟨g, i * 5, none⟩))
  p9 : dn d 9 → t[115]? = some (.pointer (some ⟨g, i * 5 + 4, none⟩))
  l7 : dn d 7 → dn d 4 ∧ dn d 6
  l10 : dn d 10 → dn d 7 ∧ dn d 9
  bl : ¬ dn d 7 → Below W0.heap.size W0 wc
  res : dn d 7 → ∃ (u : Value) (wp w5 : World), Below W0.heap.size W0 wp ∧ w5.ownsRow (ob + 1) 60 4 u (nt + ns) (tl.flatMap encValue ++ sl.flatMap encValue) ∧ wp.grownBy w5 (Value.slice At nt ct).ownBlock ∧ (u.ownBlock = (Value.slice At nt ct).ownBlock ∨ u.ownBlock = some wp.heap.size) ∧ (¬ dn d 10 → t[113]? = some u ∧ wc = w5) ∧ (dn d 10 → wc = w5.setCell ⟨g, i * 5 + 4, none⟩ u)
def GmaI (T0 : Array Value) (W0 : World) (ob sb g i nt ct ns c2 : Nat) (At A2 : Option Addr) (tl sl : List Sg.Value) (d : Array Bool) (a : Act) (wc : World) : Prop := ∃ t : Array Value, a = ⟨t, []⟩ ∧ GmaR T0 W0 ob sb g i nt ct ns c2 At A2 tl sl d t wc
structure GmbR (T0 : Array Value) (W0 : World) (ob g n cv k nu cu : Nat) (Au : Option Addr) (T : List Sg.Value) (d : Array Bool) (t : Array Value) (wc : World) : Prop where
  bel : Below (ob + 1) W0 wc
  siz : t.size = 154
  kp : ∀ i, i ∉ ([127, 128, 129, 130, 131, 132, 133, 134, 135, 136, 137, 138] : List Nat) → t[i]? = T0[i]?
  k8 : t[8]? = some (.pointer (some ⟨ob, 0, none⟩))
  k16 : t[16]? = some (.int .i64 (k : Nat))
  p0 : dn d 0 → t[127]? = some (.pointer (some ⟨ob, 1, none⟩))
  p1 : dn d 1 → t[128]? = some (.slice (some ⟨g, 0, none⟩) n cv)
  p2 : dn d 2 → t[129]? = some (.int .i64 (k : Nat))
  p3 : dn d 3 → t[130]? = some (.pointer (some ⟨ob, 1, none⟩))
  p4 : dn d 4 → t[131]? = some (.slice (some ⟨g, 0, none⟩) n cv)
  p5 : dn d 5 → t[132]? = some (.int .i64 (k : Nat))
  p6 : dn d 6 → t[133]? = some (.pointer (some ⟨g, k * 5, none⟩))
  p7 : dn d 7 → t[134]? = some (.pointer (some ⟨g, k * 5 + 4, none⟩))
  p8 : dn d 8 → t[135]? = some (.slice Au nu cu)
  p9 : dn d 9 → ∃ v, t[136]? = some v ∧ wc.ownsRow W0.heap.size 60 4 v T.length (T.flatMap encValue)
  p10 : dn d 10 → t[137]? = some (.pointer (some ⟨g, k * 5, none⟩))
  p11 : dn d 11 → t[138]? = some (.pointer (some ⟨g, k * 5 + 4, none⟩))
  l6 : dn d 6 → dn d 4 ∧ dn d 5
  l7 : dn d 7 → dn d 6
  l8 : dn d 8 → dn d 7
  l9 : dn d 9 → dn d 8
  l10 : dn d 10 → dn d 1 ∧ dn d 2
  l11 : dn d 11 → dn d 10
  l12 : dn d 12 → dn d 9 ∧ dn d 11
  bl : ¬ dn d 12 → Below W0.heap.size W0 wc
  q12 : dn d 12 → ∃ (wp : World) (vT : Value), Below W0.heap.size W0 wp ∧ wp.ownsRow W0.heap.size 60 4 vT T.length (T.flatMap encValue) ∧ wc = wp.setCell ⟨g, k * 5 + 4, none⟩ vT
def GmbI (T0 : Array Value) (W0 : World) (ob g n cv k nu cu : Nat) (Au : Option Addr) (T : List Sg.Value) (d : Array Bool) (a : Act) (wc : World) : Prop := ∃ t : Array Value, a = ⟨t, []⟩ ∧ GmbR T0 W0 ob g n cv k nu cu Au T d t wc
set_option maxRecDepth 100000 in
set_option maxHeartbeats 16000000 in
theorem gMerge_any (va vb : Value) (a b : Sg.SList) (w : World) (hr : RdSL w w.heap.size va a) (hr' : RdSL w w.heap.size vb b) : Calls Tryz.prog 48 #[va, vb] w (RetListE (Sg.mergeL a b) (Sg.mergeE a b) w) := by
  have HRA := Lib.hid hr
  have HRB := Lib.hid hr'
  obtain ⟨⟨ua, rfl, hga⟩, hfa⟩ := hr
  obtain ⟨⟨ub, rfl, hgb⟩, hfb⟩ := hr'
  obtain ⟨A0, c0, rfl⟩ := hga.form
  obtain ⟨B0, d0, rfl⟩ := hgb.form
  have HGA := Lib.hid hga
  have HGB := Lib.hid hgb
  have HFA := Lib.hid hfa
  have HFB := Lib.hid hfb
  obtain ⟨i1, hi1, hz1, hs1', hb1'⟩ := info_parts info_Sign
  obtain ⟨iv, hiv, hzv, hsv, hbv⟩ := info_parts info_Value
  obtain ⟨V, hV⟩ : ∃ V, V = (w.alloc (.cells #[.int .i64 a.periods, .slice A0 a.signs.length c0] 24)).alloc (.cells #[.int .i64 b.periods, .slice B0 b.signs.length d0] 24) := ⟨_, rfl⟩
  obtain ⟨W1, hW1⟩ : ∃ W1, W1 = V.alloc (.cells #[.int .i64 0, .slice none 0 0] 24) := ⟨_, rfl⟩
  have hVs : V.heap.size = w.heap.size + 2 := by rw [hV]; simp
  have hbV : Below w.heap.size w V := by rw [hV]; exact ((Below.refl _ _).alloc (Nat.le_refl _) _).alloc (by simp) _
  have hbV1 : Below V.heap.size V W1 := by rw [hW1]; exact (Below.refl _ _).alloc (Nat.le_refl _) _
  have hb1 : Below w.heap.size w W1 := hbV.trans (hbV1.mono (by omega))
  have hX : W1.heap[w.heap.size]? = some (.cells #[.int .i64 a.periods, .slice A0 a.signs.length c0] 24 (0, 0)) := (hbV1.block _ (by omega)).trans (by rw [hV]; exact start_fst w _ _)
  have hY : W1.heap[w.heap.size + 1]? = some (.cells #[.int .i64 b.periods, .slice B0 b.signs.length d0] 24 (0, 0)) := (hbV1.block _ (by omega)).trans (by rw [hV]; exact start_res' w _ _)
  have hR : W1.heap[w.heap.size + 2]? = some (.cells #[.int .i64 0, .slice none 0 0] 24 (0, 0)) := by
    have := heap_alloc_new V (.cells #[.int .i64 0, .slice none 0 0] 24)
    rw [← hW1, hVs] at this
    exact this
  have hs1 : w.heap.size + 2 < W1.heap.size := (Array.getElem?_eq_some_iff.1 hR).1
  have CX : Hid (∀ W, Below W1.heap.size W1 W → W.cell? ⟨w.heap.size, 0, none⟩ = some (.int .i64 a.periods) ∧ W.cell? ⟨w.heap.size, 1, none⟩ = some (.slice A0 a.signs.length c0)) := Lib.hid fun W hW => by
    have := cells2 ((hW.block _ (by omega)).trans hX)
    exact ⟨this.1, this.2.1⟩
  have CY : Hid (∀ W, Below W1.heap.size W1 W → W.cell? ⟨w.heap.size + 1, 0, none⟩ = some (.int .i64 b.periods) ∧ W.cell? ⟨w.heap.size + 1, 1, none⟩ = some (.slice B0 b.signs.length d0)) := Lib.hid fun W hW => by
    have := cells2 ((hW.block _ (by omega)).trans hY)
    exact ⟨this.1, this.2.1⟩
  have CR : Hid (∀ W, Below W1.heap.size W1 W → W.cell? ⟨w.heap.size + 2, 0, none⟩ = some (.int .i64 0) ∧ W.cell? ⟨w.heap.size + 2, 1, none⟩ = some (.slice none 0 0) ∧ W.frozen? ⟨w.heap.size + 2, 0, none⟩ = false ∧ W.frozen? ⟨w.heap.size + 2, 1, none⟩ = false) := Lib.hid fun W hW => cells2 ((hW.block _ (by omega)).trans hR)
  have HB1 := Lib.hid hb1
  have HW1 : Hid (W1 = ((w.alloc (.cells #[.int .i64 a.periods, .slice A0 a.signs.length c0] 24)).alloc (.cells #[.int .i64 b.periods, .slice B0 b.signs.length d0] 24)).alloc (.cells #[.int .i64 0, .slice none 0 0] 24)) := Lib.hid (by rw [hW1, hV])
  obtain ⟨x0, x1⟩ := CX.out W1 (Below.refl _ _)
  have HCA := Lib.hid (gCheck_any _ a W1 (HRA.out.on hb1))
  have HCB := Lib.hid fun (W : World) (hW : Below w.heap.size w W) => gCheck_any _ b W (HRB.out.on hW)
  obtain ⟨e1, he1⟩ : ∃ e1, e1 = Sg.checkV a := ⟨_, rfl⟩
  obtain ⟨e2, he2⟩ : ∃ e2, e2 = Sg.checkV b := ⟨_, rfl⟩
  have HE1 := Lib.hid he1
  have HE2 := Lib.hid he2
  rw [← he1] at HCA
  rw [← he2] at HCB
  obtain ⟨rl, hrl⟩ : ∃ r, r = Sg.mergeL a b := ⟨_, rfl⟩
  obtain ⟨re, hre⟩ : ∃ r, r = Sg.mergeE a b := ⟨_, rfl⟩
  have HRE : Hid (Sg.mergeE a b = re ∧ Sg.mergeL a b = rl) := Lib.hid ⟨hre.symm, hrl.symm⟩
  rw [← hrl, ← hre]
  clear hga hgb hfa hfb hW1 hV hVs hbV hbV1 hb1 hX hY hR he1 he2 hrl hre
  go_enter Tryz.func48, Tryz.ntmps48
  go_upto_region 1 with fail
  rw [← HW1.out]
  go_wp2_with fail
  refine HCA.out.mono ?_
  rintro e w2 ⟨rfl, hb2⟩
  have HB2 := Lib.hid (HB1.out.trans (hb2.mono (by omega)))
  have H2 := Lib.hid hb2
  clear hb2 x0 x1
  by_cases h0 : e1 = 0
  case neg =>
    have HN : Hid (re = e1 ∧ rl = Sg.noL) := Lib.hid (by
      have := Sg.merge_ca (a := a) (b := b) (by rw [← HE1.out]; exact h0)
      rw [HRE.out.1, HRE.out.2, ← HE1.out] at this
      exact this)
    obtain ⟨c0', c1', z0', z1'⟩ := CR.out w2 H2.out
    go_wp2_with fail
    refine bodyPost_ret (v := .tuple #[.agg #[.int .i64 0, .slice none 0 0], .int .i64 e1]) (by simp [results, Tryz.results48, go_sem, c0', c1']) rfl ?_
    exact RetListE.zero HN.out.2 HN.out.1 ((Below.setCell HB2.out (by show w.heap.size ≤ w.heap.size + 2; omega) _).setCell (by show w.heap.size ≤ w.heap.size + 2; omega) _)
  subst h0
  have HLA : Hid (Sg.checkV a = 0) := Lib.hid HE1.out.symm
  obtain ⟨y0, y1⟩ := CY.out w2 H2.out
  go_wp2_with fail
  refine (HCB.out w2 HB2.out).mono ?_
  rintro e w2b ⟨rfl, hb2⟩
  have HB2b := Lib.hid (HB2.out.trans (hb2.mono HB2.out.size))
  have H2b := Lib.hid (H2.out.trans (hb2.mono H2.out.size))
  clear hb2 y0 y1
  by_cases h0 : e2 = 0
  case neg =>
    have HN : Hid (re = e2 ∧ rl = Sg.noL) := Lib.hid (by
      have := Sg.merge_cb (a := a) (b := b) HLA.out (by rw [← HE2.out]; exact h0)
      rw [HRE.out.1, HRE.out.2, ← HE2.out] at this
      exact this)
    obtain ⟨c0', c1', z0', z1'⟩ := CR.out w2b H2b.out
    go_wp2_with fail
    refine bodyPost_ret (v := .tuple #[.agg #[.int .i64 0, .slice none 0 0], .int .i64 e2]) (by simp [results, Tryz.results48, go_sem, c0', c1']) rfl ?_
    exact RetListE.zero HN.out.2 HN.out.1 ((Below.setCell HB2b.out (by show w.heap.size ≤ w.heap.size + 2; omega) _).setCell (by show w.heap.size ≤ w.heap.size + 2; omega) _)
  subst h0
  have HLB : Hid (Sg.checkV b = 0) := Lib.hid HE2.out.symm
  have HVa : Hid (∀ s ∈ a.signs, s.values.length ≤ 24) := Lib.hid fun s hs => by
    have := (Sg.unite_vals HLA.out HLB.out 0 s (by rw [List.take_zero, Sg.unite_nil]; exact hs)).1
    omega
  have HVb : Hid (∀ s ∈ b.signs, s.values.length ≤ 24) := Lib.hid fun s hs => by
    have := (Sg.unite_vals HLB.out HLA.out 0 s (by rw [List.take_zero, Sg.unite_nil]; exact hs)).1
    omega
  have HUA := Lib.hid (Sg.uniq_of HLA.out)
  have HUB := Lib.hid (Sg.uniq_of HLB.out)
  have hal : a.signs.length ≤ 200 := (Sg.check_sign HLA.out).2.1
  have hbl : b.signs.length ≤ 200 := (Sg.check_sign HLB.out).2.1
  obtain ⟨x0, x1⟩ := CX.out w2b H2b.out
  obtain ⟨y0, y1⟩ := CY.out w2b H2b.out
  obtain ⟨pm, hpm⟩ : ∃ p, p = max a.periods b.periods := ⟨_, rfl⟩
  obtain ⟨w3, hw3⟩ : ∃ w3, w3 = w2b.alloc (.cells #[.int .i64 pm, .slice none 0 0] 24) := ⟨_, rfl⟩
  obtain ⟨ob, hob⟩ : ∃ ob, ob = w2b.heap.size := ⟨_, rfl⟩
  have hb3 : Below w2b.heap.size w2b w3 := by rw [hw3]; exact (Below.refl _ _).alloc (Nat.le_refl _) _
  have hz3 : w3.heap[ob]? = some (.cells #[.int .i64 pm, .slice none 0 0] 24 (0, 0)) := by rw [hw3, hob]; exact heap_alloc_new _ _
  have hobl : W1.heap.size ≤ ob := by have := H2b.out.size; omega
  have hobw : w.heap.size + 2 < ob := by omega
  have HB3 := Lib.hid (HB2b.out.trans (hb3.mono HB2b.out.size))
  have H3 := Lib.hid (H2b.out.trans (hb3.mono H2b.out.size))
  have HZ3 := Lib.hid hz3
  have HW3 : Hid (w3 = w2b.alloc (.cells #[.int .i64 (max a.periods b.periods), .slice none 0 0] 24)) := Lib.hid (by rw [hw3, hpm])
  have HPM := Lib.hid hpm
  have HOB := Lib.hid hob
  clear hb3 hz3 hw3 hob hpm
  go_upto_region 8 with fail
  rw [← HW3.out, ← HOB.out]
  clear x0 x1 y0 y1
  obtain ⟨x0, x1⟩ := CX.out w3 H3.out
  go_wp2_with fail
  clear x0 x1
  go_loopg [38] a.signs.length (fun g i wr => ∃ (k : Nat) (vv : Value) (q : List (ByteArray × Int × Int × Bool × (Option Addr × Nat × Nat))), k ≤ a.signs.length ∧ g = a.signs.length - k ∧ i = .int .i64 (k : Nat) ∧ Below ob w3 wr ∧ wr.heap[ob]? = some (.cells #[.int .i64 pm, vv] 24 (0, 0)) ∧ OwnSQ wr (ob + 1) vv q (a.signs.take k))
  case atStart => exact ⟨0, .slice none 0 0, [], Nat.zero_le _, rfl, rfl, Below.refl _ _, HZ3.out, OwnSQ.nil _ _⟩
  case round =>
    obtain ⟨k, vv, q, hk, rfl, rfl, hbel, hz, hown⟩ := hrel
    obtain ⟨n, hn⟩ : ∃ n, n = (a.signs.take k).length := ⟨_, rfl⟩
    obtain ⟨Av, cv, rfl⟩ : ∃ A c, vv = .slice A n c := by rw [hn]; exact own_form hown.row
    have hlt3 : ob < wr.heap.size := (Array.getElem?_eq_some_iff.1 hz).1
    have hn4 : n ≤ 400 := by rw [hn, List.length_take]; omega
    have HBW := Lib.hid hbel
    have HZ := Lib.hid hz
    have HOK := Lib.hid hown
    have HNX := Lib.hid hn
    have HWR : Hid (Below w.heap.size w wr) := Lib.hid (HB3.out.trans (hbel.mono (by omega)))
    have H1R : Hid (Below W1.heap.size W1 wr) := Lib.hid (H3.out.trans (hbel.mono hobl))
    clear hbel hz hown hn
    by_cases hlt : k < a.signs.length
    · obtain ⟨bk, off, rfl, hb, hcell⟩ := HGA.out.five (by omega)
      obtain ⟨s, hs⟩ : ∃ s, a.signs[k]? = some s := ⟨_, List.getElem?_eq_getElem hlt⟩
      obtain ⟨uv, hrd, g0, g1, g2, g3, g4⟩ := hcell k s hs
      have f0 := (HWR.out.cell (p := ⟨bk, off + k * 5, none⟩) hb).trans g0
      have f1 := (HWR.out.cell (p := ⟨bk, off + k * 5 + 1, none⟩) hb).trans g1
      have f2 := (HWR.out.cell (p := ⟨bk, off + k * 5 + 2, none⟩) hb).trans g2
      have f3 := (HWR.out.cell (p := ⟨bk, off + k * 5 + 3, none⟩) hb).trans g3
      have f4 := (HWR.out.cell (p := ⟨bk, off + k * 5 + 4, none⟩) hb).trans g4
      obtain ⟨A2, c2, rfl, hvc, hvm⟩ := rds_form hrd.rds
      have hvl := HVa.out s (List.mem_of_getElem? hs)
      obtain ⟨wS, hwS⟩ : ∃ wS, wS = wr.alloc (.cells #[.string s.code, .int .i64 s.wide, .int .i64 s.high, .bool s.even, .slice A2 s.values.length c2] 67) := ⟨_, rfl⟩
      obtain ⟨sb, hsbe⟩ : ∃ sb, sb = wr.heap.size := ⟨_, rfl⟩
      have hbS : Below wr.heap.size wr wS := by rw [hwS]; exact (Below.refl _ _).alloc (Nat.le_refl _) _
      have hsb : wS.heap[sb]? = some (.cells #[.string s.code, .int .i64 s.wide, .int .i64 s.high, .bool s.even, .slice A2 s.values.length c2] 67 (0, 0)) := by rw [hwS, hsbe]; exact heap_alloc_new _ _
      have hsbl : sb < wS.heap.size := by rw [hwS, hsbe]; simp
      have hsbr : wr.heap.size ≤ sb := by omega
      have HBRS := Lib.hid hbS
      have HSB := Lib.hid hsb
      have HWS := Lib.hid hwS
      have HSBE := Lib.hid hsbe
      have HRV := Lib.hid fun (W : World) (hW : Below wr.heap.size wr W) => ((hrd.rds.below (HWR.out.trans (hW.mono HWR.out.size))).more (HWR.out.trans (hW.mono HWR.out.size)).size : RdS W W.heap.size 4 encValue (.slice A2 s.values.length c2) s.values)
      have HS := Lib.hid hs
      have hkI : (0 : Int) ≤ (k : Int) := by omega
      have hkJ : (k : Int) < (a.signs.length : Int) := by omega
      clear hcell hs g0 g1 g2 g3 g4 hrd hwS hbS hsb hsbe
      go_upto_region 11 with fail
      rw [← HWS.out, ← HSBE.out]
      clear f0 f1 f2 f3 f4
      have HCN := Lib.hid (gCloneV_any _ s.values wS (HRV.out wS HBRS.out) (by omega))
      have s4 : wS.cell? ⟨sb, 4, none⟩ = some (.slice A2 s.values.length c2) := by have := HSB.out; simp [World.cell?, this]
      clear hvl
      go_wp2_with fail
      clear s4
      refine HCN.out.mono ?_
      rintro e w8 ⟨v8, rfl, hown8, hb8⟩
      obtain ⟨A8, c8, rfl⟩ := own_form hown8
      have hsz8 : wS.heap.size ≤ w8.heap.size := hb8.size
      have hsb8 := (hb8.block sb hsbl).trans HSB.out
      have s4 : w8.cell? ⟨sb, 4, none⟩ = some (.slice A2 s.values.length c2) := by simp [World.cell?, hsb8]
      have y4 : w8.frozen? ⟨sb, 4, none⟩ = false := by simp [World.frozen?, hsb8]
      obtain ⟨w9, hw9⟩ : ∃ w9, w9 = w8.setCell ⟨sb, 4, none⟩ (.slice A8 s.values.length c8) := ⟨_, rfl⟩
      have hsb9 : w9.heap[sb]? = some (.cells #[.string s.code, .int .i64 s.wide, .int .i64 s.high, .bool s.even, .slice A8 s.values.length c8] 67 (0, 0)) := by rw [hw9]; exact gset hsb8 _
      have hsz9 : w9.heap.size = w8.heap.size := by rw [hw9]; simp [World.setCell]
      have hb9 : Below wr.heap.size wr w9 := by rw [hw9]; exact (HBRS.out.trans (hb8.mono HBRS.out.size)).setCell (by exact hsbr) _
      have HO9 : Hid (w9.ownsRow wS.heap.size 60 4 (.slice A8 s.values.length c8) s.values.length (s.values.flatMap encValue)) := Lib.hid (by rw [hw9]; exact own_side hown8 hsbl _)
      have HOQ9 := Lib.hid (HOK.out.kept hb9)
      have hz9 := (hb9.block ob hlt3).trans HZ.out
      have HZ9 := Lib.hid hz9
      have HW9 := Lib.hid hw9
      have HB9 := Lib.hid hb9
      have HSZ : Hid (wS.heap.size ≤ w9.heap.size ∧ wr.heap.size ≤ wS.heap.size) := Lib.hid ⟨by omega, HBRS.out.size⟩
      clear hown8 hb8 hsb8 hw9 hb9 hsz9 hsz8
      go_upto_region 12 with fail
      rw [← HW9.out]
      clear s4 y4
      have v0 : w9.cell? ⟨sb, 0, none⟩ = some (.string s.code) := by simp [World.cell?, hsb9]
      have v1 : w9.cell? ⟨sb, 1, none⟩ = some (.int .i64 s.wide) := by simp [World.cell?, hsb9]
      have v2 : w9.cell? ⟨sb, 2, none⟩ = some (.int .i64 s.high) := by simp [World.cell?, hsb9]
      have v3 : w9.cell? ⟨sb, 3, none⟩ = some (.bool s.even) := by simp [World.cell?, hsb9]
      have v4 : w9.cell? ⟨sb, 4, none⟩ = some (.slice A8 s.values.length c8) := by simp [World.cell?, hsb9]
      have c1 : w9.cell? ⟨ob, 1, none⟩ = some (.slice Av n cv) := by simp [World.cell?, hz9]
      have HOQ : Hid (OwnSQ (w9.alloc (.cells #[.string s.code, .int .i64 s.wide, .int .i64 s.high, .bool s.even, .slice A8 s.values.length c8] 67)) (ob + 1) (.slice Av n cv) q (a.signs.take k)) := Lib.hid (HOQ9.out.kept ((Below.refl _ _).alloc (Nat.le_refl _) _))
      have HOS : Hid ((w9.alloc (.cells #[.string s.code, .int .i64 s.wide, .int .i64 s.high, .bool s.even, .slice A8 s.values.length c8] 67)).ownsRow (ob + 1) 67 5 (.slice Av n cv) n (q.flatMap encS)) := Lib.hid (by have := HOQ.out.row; rwa [← HNX.out] at this)
      have HRD := Lib.hid (rd_one_sign w9 (s.code, s.wide, s.high, s.even, (A8, s.values.length, c8)))
      have hk1 : n + 1 ≤ maxLen := by simp only [maxLen]; omega
      have hk2 : (n + 1) * 64 ≤ 140737488355328 := by omega
      have hbase : ob + 1 ≤ (w9.alloc (.cells #[.string s.code, .int .i64 s.wide, .int .i64 s.high, .bool s.even, .slice A8 s.values.length c8] 67)).heap.size := by have := HSZ.out; simp; omega
      clear hsb9 hz9
      go_wp2_with (at_builtin; go_must (refine wpList_append_rd (enc := encS) rfl (.tmp 47) (.tmp 49) _ rfl (ob + 1) 67 i1 _ 5 64 len_S one_S Tryz.underlying22 hi1 hz1 hs1' hb1' rfl (by decide) (.slice Av n cv) n (q.flatMap encS) rfl HOS.out _ (.slice (some ⟨w9.heap.size, 0, none⟩) 1 1) [(s.code, s.wide, s.high, s.even, (A8, s.values.length, c8))] rfl HRD.out hk1 hk2 hbase ?_))
      intro v5 w5 hown5 hg5 hat5
      obtain ⟨A5, c5, hv5⟩ := own_form hown5
      have hv5' : v5 = .slice A5 (n + 1) c5 := hv5
      clear hv5
      subst hv5'
      have hz5 : w5.heap[ob]? = some (.cells #[.int .i64 pm, .slice Av n cv] 24 (0, 0)) := ((hg5.block ob (by omega) (fun e => by have := (HOS.out.lt _ e.symm).1; omega)).trans (((Below.refl w9.heap.size w9).alloc (Nat.le_refl _) _).block ob (by have := HSZ.out; omega))).trans HZ9.out
      have hb5 : Below ob w3 w5 := ((HBW.out.trans (HB9.out.mono (by omega))).alloc (by have := HSZ.out; omega) _).grown hg5 (by omega) (fun x hx => by have := (HOS.out.lt x hx).1; omega)
      have HON : Hid (OwnSQ w5 (ob + 1) (.slice A5 (n + 1) c5) (q ++ [(s.code, s.wide, s.high, s.even, (A8, s.values.length, c8))]) ((a.signs.take k) ++ [s])) := Lib.hid (by
        refine OwnSQ.snoc HOQ.out (B := wS.heap.size) (r := (s.code, s.wide, s.high, s.even, (A8, s.values.length, c8))) ⟨rfl, rfl, rfl, rfl, HO9.out.alloc _⟩ (by have := HSZ.out; omega) (fun i x g hx hg => ?_) (fun g hg => ?_) hg5 (by rw [← HNX.out]; have := hown5; simpa only [List.flatMap_cons, List.flatMap_nil, List.append_nil] using this)
        · have := HOK.out.lt.2 i x g hx hg; have := HSZ.out; omega
        · have := HOK.out.lt.1 g hg; have := HSZ.out; omega)
      have c1 : w5.cell? ⟨ob, 1, none⟩ = some (.slice Av n cv) := by simp [World.cell?, hz5]
      have z1 : w5.frozen? ⟨ob, 1, none⟩ = false := by simp [World.frozen?, hz5]
      obtain ⟨w6, hw6⟩ : ∃ w6, w6 = w5.setCell ⟨ob, 1, none⟩ (.slice A5 (n + 1) c5) := ⟨_, rfl⟩
      have HZ6 : Hid (w6.heap[ob]? = some (.cells #[.int .i64 pm, .slice A5 (n + 1) c5] 24 (0, 0))) := Lib.hid (by rw [hw6]; exact gset hz5 _)
      have HB6 : Hid (Below ob w3 w6) := Lib.hid (by rw [hw6]; exact hb5.setCell (Nat.le_refl _) _)
      have HO6 : Hid (OwnSQ w6 (ob + 1) (.slice A5 (n + 1) c5) (q ++ [(s.code, s.wide, s.high, s.even, (A8, s.values.length, c8))]) ((a.signs.take k) ++ [s])) := Lib.hid (by rw [hw6]; exact HON.out.aside (grown_set _ _ _) (by intro x hx; cases hx; show ob < _; omega))
      have HW6 := Lib.hid hw6
      clear hown5 hg5 hat5 hz5 hb5 hw6 v0 v1 v2 v3 v4
      go_upto_region 13 with fail
      rw [← HW6.out]
      clear c1 z1
      have HTK : Hid (a.signs.take k ++ [s] = a.signs.take (k + 1)) := Lib.hid (by rw [List.take_add_one, HS.out]; rfl)
      go_wp2_with fail
      go_roundg (a.signs.length - (k + 1))
      case measure => omega
      case rel => exact ⟨k + 1, .slice A5 (n + 1) c5, _, by omega, rfl, by go_num, HB6.out, HZ6.out, by rw [← HTK.out]; exact HO6.out⟩
    · have hkJ : ¬ (k : Int) < (a.signs.length : Int) := by omega
      have HOA : Hid (OwnSQ wr (ob + 1) (.slice Av n cv) q (Sg.uniteL a.signs (b.signs.take 0))) := Lib.hid (by
        rw [List.take_zero, Sg.unite_nil]
        have := HOK.out
        rwa [List.take_of_length_le (by omega)] at this)
      have HBA := HBW
      have HZA := HZ
      obtain ⟨y0, y1⟩ := CY.out wr H1R.out
      clear HOK HNX HWR HBW HZ hlt3 hn4
      go_wp2_with fail
      clear y0 y1
      go_loopg [56] b.signs.length (fun g i wr => ∃ (k : Nat) (vv : Value) (q : List (ByteArray × Int × Int × Bool × (Option Addr × Nat × Nat))), k ≤ b.signs.length ∧ g = b.signs.length - k ∧ i = .int .i64 (k : Nat) ∧ Below ob w3 wr ∧ wr.heap[ob]? = some (.cells #[.int .i64 pm, vv] 24 (0, 0)) ∧ OwnSQ wr (ob + 1) vv q (Sg.uniteL a.signs (b.signs.take k)) ∧ ∀ s ∈ b.signs.take k, ∀ t ∈ a.signs, t.code = s.code → Sg.oddS t s = false)
      case atStart => exact ⟨0, .slice Av n cv, q, Nat.zero_le _, rfl, rfl, HBA.out, HZA.out, HOA.out, fun s hs => by simp at hs⟩
      case round =>
        clear H1R HOA HBA HZA
        obtain ⟨k, vv, q, hk, rfl, rfl, hbel, hz, hown, hodd⟩ := hrel
        rename World => wr
        obtain ⟨n, hn⟩ : ∃ n, n = (Sg.uniteL a.signs (b.signs.take k)).length := ⟨_, rfl⟩
        obtain ⟨Av, cv, rfl⟩ : ∃ A c, vv = .slice A n c := by rw [hn]; exact own_form hown.row
        have hlt3 : ob < wr.heap.size := (Array.getElem?_eq_some_iff.1 hz).1
        have hn4 : n ≤ 400 := by rw [hn]; have := Sg.unite_len (a := a.signs) (b := b.signs) k; omega
        have HBW := Lib.hid hbel
        have HZ := Lib.hid hz
        have HOK := Lib.hid hown
        have HNX := Lib.hid hn
        have HOD := Lib.hid hodd
        have HWR : Hid (Below w.heap.size w wr) := Lib.hid (HB3.out.trans (hbel.mono (by omega)))
        have H1R : Hid (Below W1.heap.size W1 wr) := Lib.hid (H3.out.trans (hbel.mono hobl))
        clear hbel hz hown hn hodd
        by_cases hlt : k < b.signs.length
        · obtain ⟨bk, off, rfl, hb, hcell⟩ := HGB.out.five (by omega)
          obtain ⟨s, hs⟩ : ∃ s, b.signs[k]? = some s := ⟨_, List.getElem?_eq_getElem hlt⟩
          obtain ⟨uv, hrd, g0, g1, g2, g3, g4⟩ := hcell k s hs
          have f0 := (HWR.out.cell (p := ⟨bk, off + k * 5, none⟩) hb).trans g0
          have f1 := (HWR.out.cell (p := ⟨bk, off + k * 5 + 1, none⟩) hb).trans g1
          have f2 := (HWR.out.cell (p := ⟨bk, off + k * 5 + 2, none⟩) hb).trans g2
          have f3 := (HWR.out.cell (p := ⟨bk, off + k * 5 + 3, none⟩) hb).trans g3
          have f4 := (HWR.out.cell (p := ⟨bk, off + k * 5 + 4, none⟩) hb).trans g4
          obtain ⟨A2, c2, rfl, hvc, hvm⟩ := rds_form hrd.rds
          have hvl := HVb.out s (List.mem_of_getElem? hs)
          obtain ⟨wS, hwS⟩ : ∃ wS, wS = wr.alloc (.cells #[.string s.code, .int .i64 s.wide, .int .i64 s.high, .bool s.even, .slice A2 s.values.length c2] 67) := ⟨_, rfl⟩
          obtain ⟨sb, hsbe⟩ : ∃ sb, sb = wr.heap.size := ⟨_, rfl⟩
          have hbS : Below wr.heap.size wr wS := by rw [hwS]; exact (Below.refl _ _).alloc (Nat.le_refl _) _
          have hsb : wS.heap[sb]? = some (.cells #[.string s.code, .int .i64 s.wide, .int .i64 s.high, .bool s.even, .slice A2 s.values.length c2] 67 (0, 0)) := by rw [hwS, hsbe]; exact heap_alloc_new _ _
          have hsbl : sb < wS.heap.size := by rw [hwS, hsbe]; simp
          have hsbr : wr.heap.size ≤ sb := by omega
          have HBRS := Lib.hid hbS
          have HSB := Lib.hid hsb
          have HWS := Lib.hid hwS
          have HSBE := Lib.hid hsbe
          have HRV := Lib.hid fun (W : World) (hW : Below wr.heap.size wr W) => ((hrd.rds.below (HWR.out.trans (hW.mono HWR.out.size))).more (HWR.out.trans (hW.mono HWR.out.size)).size : RdS W W.heap.size 4 encValue (.slice A2 s.values.length c2) s.values)
          have HS := Lib.hid hs
          have hkI : (0 : Int) ≤ (k : Int) := by omega
          have hkJ : (k : Int) < (b.signs.length : Int) := by omega
          clear hcell hs g0 g1 g2 g3 g4 hrd hwS hbS hsb hsbe
          go_upto_region 17 with fail
          rw [← HWS.out, ← HSBE.out]
          clear f0 f1 f2 f3 f4
          have H1S : Hid (Below W1.heap.size W1 wS) := Lib.hid (H1R.out.trans (HBRS.out.mono H1R.out.size))
          have HBWS : Hid (Below w.heap.size w wS) := Lib.hid (HWR.out.trans (HBRS.out.mono HWR.out.size))
          obtain ⟨x0, x1⟩ := CX.out wS H1S.out
          have t0 : wS.cell? ⟨sb, 0, none⟩ = some (.string s.code) := by have := HSB.out; simp [World.cell?, this]
          have HIX := Lib.hid (gIndex_any _ a s.code wS (HRA.out.on HBWS.out))
          obtain ⟨ix, hix⟩ : ∃ ix, ix = idxOf (Sg.codeIs s.code) a.signs := ⟨_, rfl⟩
          have HIE := Lib.hid hix
          rw [← hix] at HIX
          clear hix
          go_wp2_with fail
          refine HIX.out.mono ?_
          rintro e w7 ⟨rfl, hb7⟩
          have HB7 := Lib.hid hb7
          have HBR7 : Hid (Below wr.heap.size wr w7) := Lib.hid (HBRS.out.trans (hb7.mono HBRS.out.size))
          have HSB7 := Lib.hid ((hb7.block sb hsbl).trans HSB.out)
          have hsb7 : sb < w7.heap.size := by have := hb7.size; omega
          clear hb7 x0 x1 t0 hsbl HIX
          have hcd : Sg.codeIs s.code = Sg.isC s.code := by funext t; rfl
          cases hh : Sg.hasC a.signs s.code
          · have hix : ix = -1 := by rw [HIE.out, hcd]; exact idx_not hh
            have HHC := Lib.hid hh
            have HCN := Lib.hid (gCloneV_any _ s.values w7 (HRV.out w7 HBR7.out) (by omega))
            have s4 : w7.cell? ⟨sb, 4, none⟩ = some (.slice A2 s.values.length c2) := by have := HSB7.out; simp [World.cell?, this]
            clear hh hcd HIE hvl
            subst hix
            go_wp2_with fail
            clear s4
            refine HCN.out.mono ?_
            rintro e w8 ⟨v8, rfl, hown8, hb8⟩
            obtain ⟨A8, c8, rfl⟩ := own_form hown8
            have hsz8 : w7.heap.size ≤ w8.heap.size := hb8.size
            have hsb8 := (hb8.block sb hsb7).trans HSB7.out
            have s4 : w8.cell? ⟨sb, 4, none⟩ = some (.slice A2 s.values.length c2) := by simp [World.cell?, hsb8]
            have y4 : w8.frozen? ⟨sb, 4, none⟩ = false := by simp [World.frozen?, hsb8]
            obtain ⟨w9, hw9⟩ : ∃ w9, w9 = w8.setCell ⟨sb, 4, none⟩ (.slice A8 s.values.length c8) := ⟨_, rfl⟩
            have hsb9 : w9.heap[sb]? = some (.cells #[.string s.code, .int .i64 s.wide, .int .i64 s.high, .bool s.even, .slice A8 s.values.length c8] 67 (0, 0)) := by rw [hw9]; exact gset hsb8 _
            have hsz9 : w9.heap.size = w8.heap.size := by rw [hw9]; simp [World.setCell]
            have hb9 : Below wr.heap.size wr w9 := by rw [hw9]; exact (HBR7.out.trans (hb8.mono HBR7.out.size)).setCell (by exact hsbr) _
            have HO9 : Hid (w9.ownsRow w7.heap.size 60 4 (.slice A8 s.values.length c8) s.values.length (s.values.flatMap encValue)) := Lib.hid (by rw [hw9]; exact own_side hown8 hsb7 _)
            have HOQ9 := Lib.hid (HOK.out.kept hb9)
            have hz9 := (hb9.block ob hlt3).trans HZ.out
            have HZ9 := Lib.hid hz9
            have HW9 := Lib.hid hw9
            have HB9 := Lib.hid hb9
            have HSZ : Hid (w7.heap.size ≤ w9.heap.size ∧ wr.heap.size ≤ w7.heap.size) := Lib.hid ⟨by omega, HBR7.out.size⟩
            clear hown8 hb8 hsb8 hw9 hb9 hsz9 hsz8
            go_upto_region 20 with fail
            rw [← HW9.out]
            clear s4 y4
            have v0 : w9.cell? ⟨sb, 0, none⟩ = some (.string s.code) := by simp [World.cell?, hsb9]
            have v1 : w9.cell? ⟨sb, 1, none⟩ = some (.int .i64 s.wide) := by simp [World.cell?, hsb9]
            have v2 : w9.cell? ⟨sb, 2, none⟩ = some (.int .i64 s.high) := by simp [World.cell?, hsb9]
            have v3 : w9.cell? ⟨sb, 3, none⟩ = some (.bool s.even) := by simp [World.cell?, hsb9]
            have v4 : w9.cell? ⟨sb, 4, none⟩ = some (.slice A8 s.values.length c8) := by simp [World.cell?, hsb9]
            have c1 : w9.cell? ⟨ob, 1, none⟩ = some (.slice Av n cv) := by simp [World.cell?, hz9]
            have HOQ : Hid (OwnSQ (w9.alloc (.cells #[.string s.code, .int .i64 s.wide, .int .i64 s.high, .bool s.even, .slice A8 s.values.length c8] 67)) (ob + 1) (.slice Av n cv) q (Sg.uniteL a.signs (b.signs.take k))) := Lib.hid (HOQ9.out.kept ((Below.refl _ _).alloc (Nat.le_refl _) _))
            have HOS : Hid ((w9.alloc (.cells #[.string s.code, .int .i64 s.wide, .int .i64 s.high, .bool s.even, .slice A8 s.values.length c8] 67)).ownsRow (ob + 1) 67 5 (.slice Av n cv) n (q.flatMap encS)) := Lib.hid (by have := HOQ.out.row; rwa [← HNX.out] at this)
            have HRD := Lib.hid (rd_one_sign w9 (s.code, s.wide, s.high, s.even, (A8, s.values.length, c8)))
            have hk1 : n + 1 ≤ maxLen := by simp only [maxLen]; omega
            have hk2 : (n + 1) * 64 ≤ 140737488355328 := by omega
            have hbase : ob + 1 ≤ (w9.alloc (.cells #[.string s.code, .int .i64 s.wide, .int .i64 s.high, .bool s.even, .slice A8 s.values.length c8] 67)).heap.size := by have := HSZ.out; simp; omega
            clear hsb9 hz9
            go_wp2_with (at_builtin; go_must (refine wpList_append_rd (enc := encS) rfl (.tmp 71) (.tmp 73) _ rfl (ob + 1) 67 i1 _ 5 64 len_S one_S Tryz.underlying22 hi1 hz1 hs1' hb1' rfl (by decide) (.slice Av n cv) n (q.flatMap encS) rfl HOS.out _ (.slice (some ⟨w9.heap.size, 0, none⟩) 1 1) [(s.code, s.wide, s.high, s.even, (A8, s.values.length, c8))] rfl HRD.out hk1 hk2 hbase ?_))
            intro v5 w5 hown5 hg5 hat5
            obtain ⟨A5, c5, hv5⟩ := own_form hown5
            have hv5' : v5 = .slice A5 (n + 1) c5 := hv5
            clear hv5
            subst hv5'
            have hz5 : w5.heap[ob]? = some (.cells #[.int .i64 pm, .slice Av n cv] 24 (0, 0)) := ((hg5.block ob (by omega) (fun e => by have := (HOS.out.lt _ e.symm).1; omega)).trans (((Below.refl w9.heap.size w9).alloc (Nat.le_refl _) _).block ob (by have := HSZ.out; omega))).trans HZ9.out
            have hb5 : Below ob w3 w5 := ((HBW.out.trans (HB9.out.mono (by omega))).alloc (by have := HSZ.out; omega) _).grown hg5 (by omega) (fun x hx => by have := (HOS.out.lt x hx).1; omega)
            have HON : Hid (OwnSQ w5 (ob + 1) (.slice A5 (n + 1) c5) (q ++ [(s.code, s.wide, s.high, s.even, (A8, s.values.length, c8))]) ((Sg.uniteL a.signs (b.signs.take k)) ++ [s])) := Lib.hid (by
              refine OwnSQ.snoc HOQ.out (B := w7.heap.size) (r := (s.code, s.wide, s.high, s.even, (A8, s.values.length, c8))) ⟨rfl, rfl, rfl, rfl, HO9.out.alloc _⟩ (by have := HSZ.out; omega) (fun i x g hx hg => ?_) (fun g hg => ?_) hg5 (by rw [← HNX.out]; have := hown5; simpa only [List.flatMap_cons, List.flatMap_nil, List.append_nil] using this)
              · have := HOK.out.lt.2 i x g hx hg; have := HSZ.out; omega
              · have := HOK.out.lt.1 g hg; have := HSZ.out; omega)
            have c1 : w5.cell? ⟨ob, 1, none⟩ = some (.slice Av n cv) := by simp [World.cell?, hz5]
            have z1 : w5.frozen? ⟨ob, 1, none⟩ = false := by simp [World.frozen?, hz5]
            obtain ⟨w6, hw6⟩ : ∃ w6, w6 = w5.setCell ⟨ob, 1, none⟩ (.slice A5 (n + 1) c5) := ⟨_, rfl⟩
            have HZ6 : Hid (w6.heap[ob]? = some (.cells #[.int .i64 pm, .slice A5 (n + 1) c5] 24 (0, 0))) := Lib.hid (by rw [hw6]; exact gset hz5 _)
            have HB6 : Hid (Below ob w3 w6) := Lib.hid (by rw [hw6]; exact hb5.setCell (Nat.le_refl _) _)
            have HO6 : Hid (OwnSQ w6 (ob + 1) (.slice A5 (n + 1) c5) (q ++ [(s.code, s.wide, s.high, s.even, (A8, s.values.length, c8))]) ((Sg.uniteL a.signs (b.signs.take k)) ++ [s])) := Lib.hid (by rw [hw6]; exact HON.out.aside (grown_set _ _ _) (by intro x hx; cases hx; show ob < _; omega))
            have HW6 := Lib.hid hw6
            clear hown5 hg5 hat5 hz5 hb5 hw6 v0 v1 v2 v3 v4
            go_upto_region 25 with fail
            rw [← HW6.out]
            clear c1 z1
            have HTK : Hid (Sg.uniteL a.signs (b.signs.take k) ++ [s] = Sg.uniteL a.signs (b.signs.take (k + 1))) := Lib.hid (Sg.unite_new HS.out HHC.out).symm
            have HOD2 : Hid (∀ s ∈ b.signs.take (k + 1), ∀ t ∈ a.signs, t.code = s.code → Sg.oddS t s = false) := Lib.hid (by
              intro u hu t ht hc
              rw [List.take_add_one, HS.out] at hu
              rcases List.mem_append.1 hu with hu | hu
              · exact HOD.out u hu t ht hc
              · have e : u = s := by simpa using hu
                subst e
                have := Sg.has_mem.2 ⟨t, ht, hc⟩
                rw [HHC.out] at this
                cases this)
            go_wp2_with fail
            go_roundg (b.signs.length - (k + 1))
            case measure => omega
            case rel => exact ⟨k + 1, .slice A5 (n + 1) c5, _, by omega, rfl, by go_num, HB6.out, HZ6.out, by rw [← HTK.out]; exact HO6.out, HOD2.out⟩
          · obtain ⟨i, t, hti, hpt, hixi⟩ := idx_at (p := Sg.isC s.code) (xs := a.signs) hh
            have hct : t.code = s.code := by simpa [Sg.isC] using hpt
            have hix : ix = (i : Int) := by rw [HIE.out, hcd]; exact hixi
            have hUO := Sg.unite_old HUA.out HUB.out HS.out hti hct
            have hxt := hUO.2.1
            have hin : i < n := by rw [HNX.out]; exact (List.getElem?_eq_some_iff.1 hxt).1
            obtain ⟨g, rfl⟩ : ∃ g, Av = some ⟨g, 0, none⟩ := by
              have := HOK.out.row
              rw [← HNX.out] at this
              rcases this.2 with ⟨-, e⟩ | ⟨g, cap, cur, e, -⟩
              · omega
              · injection e with e1
                exact ⟨g, e1⟩
            obtain ⟨r, hqr⟩ : ∃ r, q[i]? = some r := ⟨_, List.getElem?_eq_getElem (by have := HOK.out.len; rw [← HNX.out] at this; omega)⟩
            have hro := HOK.out.one i r t hqr hxt
            obtain ⟨rc, rw_, rh, re_, At, nt0, ct⟩ := r
            have h5 := hro.own
            have hnt : nt0 = t.values.length := by
              rcases h5.2 with ⟨e, e0⟩ | ⟨g', cap', cur', e, -⟩
              · unfold rowV at e; simp only at e; injection e with _ e2; omega
              · unfold rowV at e; simp only at e; injection e
            subst hnt
            obtain ⟨h1, h2, h3, h4, -⟩ := hro
            simp only at h1 h2 h3 h4
            subst h1; subst h2; subst h3; subst h4
            have HR7 := Lib.hid (HOK.out.kept HBR7.out)
            have HQR := Lib.hid hqr
            have HXT := Lib.hid hxt
            have HCT := Lib.hid hct
            have HTI := Lib.hid hti
            have hgl := (HOK.out.row.lt g (by rfl)).2
            have hgb : ob + 1 ≤ g := (HOK.out.row.lt g (by rfl)).1
            have HTV0 : Hid (wr.ownsRow (ob + 1) 60 4 (.slice At t.values.length ct) t.values.length (t.values.flatMap encValue)) := Lib.hid (by
              have := (HOK.out.one i _ t hqr hxt).own
              exact this)
            have HROW : Hid (wr.ownsRow (ob + 1) 67 5 (.slice (some ⟨g, 0, none⟩) n cv) n (q.flatMap encS)) := Lib.hid (by have := HOK.out.row; rwa [← HNX.out] at this)
            have CT : Hid (∀ W, Below wr.heap.size wr W → W.cell? ⟨g, i * 5 + 1, none⟩ = some (.int .i64 t.wide) ∧ W.cell? ⟨g, i * 5 + 2, none⟩ = some (.int .i64 t.high) ∧ W.cell? ⟨g, i * 5 + 3, none⟩ = some (.bool t.even) ∧ W.cell? ⟨g, i * 5 + 4, none⟩ = some (.slice At t.values.length ct) ∧ W.frozen? ⟨g, i * 5 + 4, none⟩ = false) := Lib.hid fun W hW => by
              have hw := keep_own HROW.out hW
              have hat := flat_at len_S q i _ hqr
              have c1 := hw.cells rfl (i * 5 + 1) _ (hat 1 _ rfl)
              have c2 := hw.cells rfl (i * 5 + 2) _ (hat 2 _ rfl)
              have c3 := hw.cells rfl (i * 5 + 3) _ (hat 3 _ rfl)
              have c4 := hw.cells rfl (i * 5 + 4) _ (hat 4 _ rfl)
              rw [addr_add, Nat.zero_add] at c1 c2 c3 c4
              exact ⟨c1, c2, c3, c4, own_free hw _⟩
            obtain ⟨t1, t2, t3, -, -⟩ := CT.out w7 HBR7.out
            have u1 : w7.cell? ⟨sb, 1, none⟩ = some (.int .i64 s.wide) := by have := HSB7.out; simp [World.cell?, this]
            have u2 : w7.cell? ⟨sb, 2, none⟩ = some (.int .i64 s.high) := by have := HSB7.out; simp [World.cell?, this]
            have u3 : w7.cell? ⟨sb, 3, none⟩ = some (.bool s.even) := by have := HSB7.out; simp [World.cell?, this]
            have c1 : w7.cell? ⟨ob, 1, none⟩ = some (.slice (some ⟨g, 0, none⟩) n cv) := by
              have := (HBR7.out.block ob hlt3).trans HZ.out
              simp [World.cell?, this]
            have hi0 : (0 : Int) ≤ (i : Int) := by omega
            have hi1 : (i : Int) < (n : Int) := by omega
            have htl : t.values.length ≤ 24 := HVa.out t (List.mem_of_getElem? hti)
            clear hh hcd HIE hixi hpt hUO hxt hqr hct hti h5
            subst hix
            go_upto_region 22 with fail
            clear c1
            go_cut [104] (fun c wx => c = .bool (Sg.oddS t s) ∧ Below w7.heap.size w7 wx)
            case first =>
              by_cases h1 : s.wide = t.wide
              · rw [← h1] at t1
                by_cases h2 : s.high = t.high
                · rw [← h2] at t2
                  by_cases h3 : s.even = t.even
                  · rw [← h3] at t3
                    have HO : Hid (Sg.oddS t s = false) := Lib.hid (Sg.odd_eq h1 h2 h3)
                    clear h1 h2 h3
                    go_quiet (fail)
                    go_wp2_with fail
                    go_meet
                    exact ⟨by rw [HO.out]; try simp, below_drewN (Below.refl _ _) _⟩
                  · have HO : Hid (Sg.oddS t s = true) := Lib.hid (Sg.odd_ne fun q => h3 q.2.2)
                    have n3 : (s.even == t.even) = false := by rw [beq_eq_false_iff_ne]; exact h3
                    have n3' : (s.even != t.even) = true := by rw [bne, n3]; rfl
                    clear h1 h2 h3
                    go_quiet (fail)
                    go_wp2_with fail
                    go_meet
                    exact ⟨by rw [HO.out]; try simp [n3, n3'], below_drewN (Below.refl _ _) _⟩
                · have HO : Hid (Sg.oddS t s = true) := Lib.hid (Sg.odd_ne fun q => h2 q.2.1)
                  have n2 : (s.high == t.high) = false := by rw [beq_eq_false_iff_ne]; exact h2
                  have n2' : (s.high != t.high) = true := by rw [bne, n2]; rfl
                  clear h1 h2
                  go_quiet (fail)
                  go_wp2_with fail
                  go_meet
                  exact ⟨by rw [HO.out]; try simp [n2, n2'], below_drewN (Below.refl _ _) _⟩
              · have HO : Hid (Sg.oddS t s = true) := Lib.hid (Sg.odd_ne fun q => h1 q.1)
                have n1 : (s.wide == t.wide) = false := by rw [beq_eq_false_iff_ne]; exact h1
                have n1' : (s.wide != t.wide) = true := by rw [bne, n1]; rfl
                clear h1
                go_quiet (fail)
                go_wp2_with fail
                go_meet
                exact ⟨by rw [HO.out]; try simp [n1, n1'], below_drewN (Below.refl _ _) _⟩
            case rest =>
              obtain ⟨rfl, hbx⟩ := hcut
              rename World => W0
              have HBRX : Hid (Below wr.heap.size wr W0) := Lib.hid (HBR7.out.trans (hbx.mono HBR7.out.size))
              have HSBX := Lib.hid ((hbx.block sb hsb7).trans HSB7.out)
              have H1X : Hid (Below W1.heap.size W1 W0) := Lib.hid (H1R.out.trans (HBRX.out.mono H1R.out.size))
              have HWX : Hid (Below w.heap.size w W0) := Lib.hid (HWR.out.trans (HBRX.out.mono HWR.out.size))
              have hsbx : sb < W0.heap.size := by have := hbx.size; omega
              clear hbx t1 t2 t3 u1 u2 u3
              cases ho : Sg.oddS t s
              case true =>
                have HN : Hid (re = 11 ∧ rl = Sg.noL) := Lib.hid (by
                  have := Sg.merge_clash (a := a) (b := b) HLA.out HLB.out (Sg.clash_of HUB.out (List.mem_of_getElem? HS.out) (List.mem_of_getElem? HTI.out) HCT.out ho)
                  rw [HRE.out.1, HRE.out.2] at this
                  exact this)
                clear ho
                obtain ⟨c0', c1', z0', z1'⟩ := CR.out W0 H1X.out
                go_wp2_with fail
                refine bodyPost_ret (v := .tuple #[.agg #[.int .i64 0, .slice none 0 0], .int .i64 11]) (by simp [results, Tryz.results48, go_sem, c0', c1']) rfl ?_
                exact RetListE.zero HN.out.2 HN.out.1 ((Below.setCell HWX.out (by show w.heap.size ≤ w.heap.size + 2; omega) _).setCell (by show w.heap.size ≤ w.heap.size + 2; omega) _)
              case false =>
                have HOF := Lib.hid ho
                obtain ⟨tl, htle⟩ : ∃ x, x = t.values := ⟨_, rfl⟩
                obtain ⟨sl, hsle⟩ : ∃ x, x = s.values := ⟨_, rfl⟩
                obtain ⟨nt, hnte⟩ : ∃ x, x = t.values.length := ⟨_, rfl⟩
                obtain ⟨ns, hnse⟩ : ∃ x, x = s.values.length := ⟨_, rfl⟩
                have HTV : Hid (W0.ownsRow (ob + 1) 60 4 (.slice At nt ct) nt (tl.flatMap encValue)) := Lib.hid (by rw [hnte, htle]; exact keep_own HTV0.out HBRX.out)
                have HSR : Hid (∀ W, Below W0.heap.size W0 W → RdS W W.heap.size 4 encValue (.slice A2 ns c2) sl) := Lib.hid fun W hW => by rw [hnse, hsle]; exact HRV.out W (HBRX.out.trans (hW.mono HBRX.out.size))
                have HSL : Hid (sl.length = ns ∧ nt ≤ 24 ∧ ns ≤ 24) := Lib.hid ⟨by rw [hsle, hnse], by omega, by omega⟩
                have CM : Hid (∀ W, Below W0.heap.size W0 W → W.cell? ⟨g, i * 5 + 4, none⟩ = some (.slice At nt ct) ∧ W.cell? ⟨sb, 4, none⟩ = some (.slice A2 ns c2) ∧ True) := Lib.hid fun W hW => by
                  have p := (hW.block sb hsbx).trans HSBX.out
                  refine ⟨by rw [hnte]; exact (CT.out W (HBRX.out.trans (hW.mono HBRX.out.size))).2.2.2.1, by rw [hnse]; simp [World.cell?, p], trivial⟩
                have CG : Hid (∀ wp wx, Below W0.heap.size W0 wp → wp.grownBy wx (Value.slice At nt ct).ownBlock → (∃ z, wx.cell? ⟨g, i * 5 + 4, none⟩ = some z) ∧ wx.frozen? ⟨g, i * 5 + 4, none⟩ = false) := Lib.hid fun wp wx hp hgw => by
                  have ha := keep_own HROW.out (HBRX.out.trans (hp.mono HBRX.out.size))
                  have hb' := keep_own HTV.out hp
                  have hw := ha.kept hgw (own_apart ha hb' (by decide))
                  have hat := flat_at len_S q i _ HQR.out
                  have c4 := hw.cells rfl (i * 5 + 4) _ (hat 4 _ rfl)
                  rw [addr_add, Nat.zero_add] at c4
                  exact ⟨⟨_, c4⟩, own_free hw _⟩
                have HTLE := Lib.hid htle
                have HSLE := Lib.hid hsle
                have HNTE := Lib.hid hnte
                have HNSE := Lib.hid hnse
                have hoW : ob + 1 ≤ W0.heap.size := by have := HBRX.out.size; omega
                clear ho htle hsle hnte hnse htl hvl
                go_wp2_with fail
                refine wp_region_inv2T (fun T0 => GmaI T0 W0 ob sb g i nt ct ns c2 At A2 tl sl) (by kernel_rfl) (by kernel_rfl) ?g0a ?gstepa ?genda
                case g0a =>
                  have hno : ∀ j, ¬ dn (Array.replicate 11 false) j := by
                    intro j; unfold dn; by_cases hj : j < 11 <;> simp [Array.getD, hj]
                  have na : ∀ {j : Nat} {Z : Prop}, dn (Array.replicate 11 false) j → Z := fun hj => absurd hj (hno _)
                  exact ⟨_, rfl, { bel := (Below.refl _ _).drew, siz := rfl, kp := fun _ _ => rfl, k14 := rfl, k12 := rfl, p0 := na, p1 := na, p2 := na, p3 := na, p4 := na, p5 := na, p6 := na, p8 := na, p9 := na, l7 := fun hj => absurd hj (hno _), l10 := fun hj => absurd hj (hno _), bl := fun _ => (Below.refl _ _).drew, res := fun hj => absurd hj (hno _) }⟩
                case gstepa =>
                  intro T0 d a wc i hd hI hi
                  obtain ⟨hlt, hnd, hpre⟩ := mem_ready hi
                  have hd' : d.size = 11 := hd
                  have hin : i < 11 := hlt
                  clear hi hd hlt
                  obtain ⟨t, rfl, h⟩ := hI
                  have hcs : i = 0 ∨ i = 1 ∨ i = 2 ∨ i = 3 ∨ i = 4 ∨ i = 5 ∨ i = 6 ∨ i = 7 ∨ i = 8 ∨ i = 9 ∨ i = 10 := by omega
                  rcases hcs with rfl | rfl | rfl | rfl | rfl | rfl | rfl | rfl | rfl | rfl | rfl
                  · have hi : 0 < d.size := by omega
                    have q14 := h.k14
                    refine wpOp_plain rfl rfl ?_
                    go_simp
                    exact ⟨_, rfl, { bel := h.bel, siz := (by simpa using h.siz), kp := rk h.kp, k14 := rs h.k14, k12 := rs h.k12, l7 := fun hj => (fun q => ⟨dn_up q.1, dn_up q.2⟩) (h.l7 (dn_of hi hj (by decide))), l10 := fun hj => (fun q => ⟨dn_up q.1, dn_up q.2⟩) (h.l10 (dn_of hi hj (by decide))), bl := fun hk => h.bl (fun q => hk (dn_up q)), res := fun hj => by obtain ⟨u, wp, w5, q1, q2, q3, q4, q5, q6⟩ := h.res (dn_of hi hj (by decide)); exact ⟨u, wp, w5, q1, q2, q3, q4, fun hk => ⟨(set_other (by decide)).trans (q5 (fun q => hk (dn_up q))).1, (q5 (fun q => hk (dn_up q))).2⟩, fun h9 => q6 (dn_of hi h9 (by decide))⟩, p0 := fun _ => set_same (by have := h.siz; omega), p1 := rp hi h.p1, p2 := rp hi h.p2, p3 := rp hi h.p3, p4 := rp hi h.p4, p5 := rp hi h.p5, p6 := rp hi h.p6, p8 := rp hi h.p8, p9 := rp hi h.p9 }⟩
                  · have hi : 1 < d.size := by omega
                    have q14 := h.k14
                    refine wpOp_plain rfl rfl ?_
                    go_simp
                    exact ⟨_, rfl, { bel := h.bel, siz := (by simpa using h.siz), kp := rk h.kp, k14 := rs h.k14, k12 := rs h.k12, l7 := fun hj => (fun q => ⟨dn_up q.1, dn_up q.2⟩) (h.l7 (dn_of hi hj (by decide))), l10 := fun hj => (fun q => ⟨dn_up q.1, dn_up q.2⟩) (h.l10 (dn_of hi hj (by decide))), bl := fun hk => h.bl (fun q => hk (dn_up q)), res := fun hj => by obtain ⟨u, wp, w5, q1, q2, q3, q4, q5, q6⟩ := h.res (dn_of hi hj (by decide)); exact ⟨u, wp, w5, q1, q2, q3, q4, fun hk => ⟨(set_other (by decide)).trans (q5 (fun q => hk (dn_up q))).1, (q5 (fun q => hk (dn_up q))).2⟩, fun h9 => q6 (dn_of hi h9 (by decide))⟩, p0 := rp hi h.p0, p1 := fun _ => set_same (by have := h.siz; omega), p2 := rp hi h.p2, p3 := rp hi h.p3, p4 := rp hi h.p4, p5 := rp hi h.p5, p6 := rp hi h.p6, p8 := rp hi h.p8, p9 := rp hi h.p9 }⟩
                  · have hi : 2 < d.size := by omega
                    have e1 := h.p1 (hpre _ rfl ⟨1, .data⟩ (by simp) rfl)
                    refine wpOp_plain rfl rfl ?_
                    go_simp
                    exact ⟨_, rfl, { bel := h.bel, siz := (by simpa using h.siz), kp := rk h.kp, k14 := rs h.k14, k12 := rs h.k12, l7 := fun hj => (fun q => ⟨dn_up q.1, dn_up q.2⟩) (h.l7 (dn_of hi hj (by decide))), l10 := fun hj => (fun q => ⟨dn_up q.1, dn_up q.2⟩) (h.l10 (dn_of hi hj (by decide))), bl := fun hk => h.bl (fun q => hk (dn_up q)), res := fun hj => by obtain ⟨u, wp, w5, q1, q2, q3, q4, q5, q6⟩ := h.res (dn_of hi hj (by decide)); exact ⟨u, wp, w5, q1, q2, q3, q4, fun hk => ⟨(set_other (by decide)).trans (q5 (fun q => hk (dn_up q))).1, (q5 (fun q => hk (dn_up q))).2⟩, fun h9 => q6 (dn_of hi h9 (by decide))⟩, p0 := rp hi h.p0, p1 := rp hi h.p1, p2 := fun _ => set_same (by have := h.siz; omega), p3 := rp hi h.p3, p4 := rp hi h.p4, p5 := rp hi h.p5, p6 := rp hi h.p6, p8 := rp hi h.p8, p9 := rp hi h.p9 }⟩
                  · have hi : 3 < d.size := by omega
                    have e2 := h.p2 (hpre _ rfl ⟨2, .data⟩ (by simp) rfl)
                    refine wpOp_plain rfl rfl ?_
                    go_simp
                    exact ⟨_, rfl, { bel := h.bel, siz := (by simpa using h.siz), kp := rk h.kp, k14 := rs h.k14, k12 := rs h.k12, l7 := fun hj => (fun q => ⟨dn_up q.1, dn_up q.2⟩) (h.l7 (dn_of hi hj (by decide))), l10 := fun hj => (fun q => ⟨dn_up q.1, dn_up q.2⟩) (h.l10 (dn_of hi hj (by decide))), bl := fun hk => h.bl (fun q => hk (dn_up q)), res := fun hj => by obtain ⟨u, wp, w5, q1, q2, q3, q4, q5, q6⟩ := h.res (dn_of hi hj (by decide)); exact ⟨u, wp, w5, q1, q2, q3, q4, fun hk => ⟨(set_other (by decide)).trans (q5 (fun q => hk (dn_up q))).1, (q5 (fun q => hk (dn_up q))).2⟩, fun h9 => q6 (dn_of hi h9 (by decide))⟩, p0 := rp hi h.p0, p1 := rp hi h.p1, p2 := rp hi h.p2, p3 := fun _ => set_same (by have := h.siz; omega), p4 := rp hi h.p4, p5 := rp hi h.p5, p6 := rp hi h.p6, p8 := rp hi h.p8, p9 := rp hi h.p9 }⟩
                  · have hi : 4 < d.size := by omega
                    have e3 := h.p3 (hpre _ rfl ⟨3, .data⟩ (by simp) rfl)
                    have hns : ¬ dn d 7 := fun q => not_dn hi hnd (h.l7 q).1
                    obtain ⟨n4, s4, -⟩ := CM.out wc (h.bl hns)
                    refine wpOp_plain rfl rfl ?_
                    go_simp
                    exact ⟨_, rfl, { bel := h.bel, siz := (by simpa using h.siz), kp := rk h.kp, k14 := rs h.k14, k12 := rs h.k12, l7 := fun hj => absurd (h.l7 (dn_of hi hj (by decide))).1 (not_dn hi hnd), l10 := fun hj => (fun q => ⟨dn_up q.1, dn_up q.2⟩) (h.l10 (dn_of hi hj (by decide))), bl := fun hk => h.bl (fun q => hk (dn_up q)), res := fun hj => by obtain ⟨u, wp, w5, q1, q2, q3, q4, q5, q6⟩ := h.res (dn_of hi hj (by decide)); exact ⟨u, wp, w5, q1, q2, q3, q4, fun hk => ⟨(set_other (by decide)).trans (q5 (fun q => hk (dn_up q))).1, (q5 (fun q => hk (dn_up q))).2⟩, fun h9 => q6 (dn_of hi h9 (by decide))⟩, p0 := rp hi h.p0, p1 := rp hi h.p1, p2 := rp hi h.p2, p3 := rp hi h.p3, p4 := fun _ => set_same (by have := h.siz; omega), p5 := rp hi h.p5, p6 := rp hi h.p6, p8 := rp hi h.p8, p9 := rp hi h.p9 }⟩
                  · have hi : 5 < d.size := by omega
                    have q12 := h.k12
                    refine wpOp_plain rfl rfl ?_
                    go_simp
                    exact ⟨_, rfl, { bel := h.bel, siz := (by simpa using h.siz), kp := rk h.kp, k14 := rs h.k14, k12 := rs h.k12, l7 := fun hj => (fun q => ⟨dn_up q.1, dn_up q.2⟩) (h.l7 (dn_of hi hj (by decide))), l10 := fun hj => (fun q => ⟨dn_up q.1, dn_up q.2⟩) (h.l10 (dn_of hi hj (by decide))), bl := fun hk => h.bl (fun q => hk (dn_up q)), res := fun hj => by obtain ⟨u, wp, w5, q1, q2, q3, q4, q5, q6⟩ := h.res (dn_of hi hj (by decide)); exact ⟨u, wp, w5, q1, q2, q3, q4, fun hk => ⟨(set_other (by decide)).trans (q5 (fun q => hk (dn_up q))).1, (q5 (fun q => hk (dn_up q))).2⟩, fun h9 => q6 (dn_of hi h9 (by decide))⟩, p0 := rp hi h.p0, p1 := rp hi h.p1, p2 := rp hi h.p2, p3 := rp hi h.p3, p4 := rp hi h.p4, p5 := fun _ => set_same (by have := h.siz; omega), p6 := rp hi h.p6, p8 := rp hi h.p8, p9 := rp hi h.p9 }⟩
                  · have hi : 6 < d.size := by omega
                    have e5 := h.p5 (hpre _ rfl ⟨5, .data⟩ (by simp) rfl)
                    have hns : ¬ dn d 7 := fun q => not_dn hi hnd (h.l7 q).2
                    obtain ⟨n4, s4, -⟩ := CM.out wc (h.bl hns)
                    refine wpOp_plain rfl rfl ?_
                    go_simp
                    exact ⟨_, rfl, { bel := h.bel, siz := (by simpa using h.siz), kp := rk h.kp, k14 := rs h.k14, k12 := rs h.k12, l7 := fun hj => absurd (h.l7 (dn_of hi hj (by decide))).2 (not_dn hi hnd), l10 := fun hj => (fun q => ⟨dn_up q.1, dn_up q.2⟩) (h.l10 (dn_of hi hj (by decide))), bl := fun hk => h.bl (fun q => hk (dn_up q)), res := fun hj => by obtain ⟨u, wp, w5, q1, q2, q3, q4, q5, q6⟩ := h.res (dn_of hi hj (by decide)); exact ⟨u, wp, w5, q1, q2, q3, q4, fun hk => ⟨(set_other (by decide)).trans (q5 (fun q => hk (dn_up q))).1, (q5 (fun q => hk (dn_up q))).2⟩, fun h9 => q6 (dn_of hi h9 (by decide))⟩, p0 := rp hi h.p0, p1 := rp hi h.p1, p2 := rp hi h.p2, p3 := rp hi h.p3, p4 := rp hi h.p4, p5 := rp hi h.p5, p6 := fun _ => set_same (by have := h.siz; omega), p8 := rp hi h.p8, p9 := rp hi h.p9 }⟩
                  · have hi : 7 < d.size := by omega
                    have hns : ¬ dn d 7 := not_dn hi hnd
                    have d4 : dn d 4 := hpre _ rfl ⟨4, .data⟩ (by simp) rfl
                    have d6 : dn d 6 := hpre _ rfl ⟨6, .data⟩ (by simp) rfl
                    have e4 := h.p4 d4
                    have e6 := h.p6 d6
                    have hot := h.bl hns
                    refine wpOp_plain rfl rfl ?_
                    refine wp_append_rd (enc := encValue) (.tmp 110) (.tmp 112) _ rfl (ob + 1) 60 iv _ 4 40 len_value one_value Tryz.underlying47 hiv hzv hsv hbv rfl (by decide) (.slice At nt ct) nt (tl.flatMap encValue) (eval_tmp e4) (keep_own HTV.out hot) wc.heap.size (.slice A2 ns c2) sl (eval_tmp e6) (HSR.out wc hot) (by have := HSL.out; simp only [maxLen]; omega) (by have := HSL.out; omega) (by have := hot.size; omega) ?_
                    intro v' w' hown' hgw hat
                    have hown2 : w'.ownsRow (ob + 1) 60 4 v' (nt + ns) (tl.flatMap encValue ++ sl.flatMap encValue) := by have := hown'; rwa [HSL.out.1] at this
                    exact ⟨_, rfl, { bel := h.bel.grown hgw (by have := hot.size; omega) (fun k hk => ((keep_own HTV.out hot).lt k hk).1), siz := (by simpa using h.siz), kp := rk h.kp, k14 := rs h.k14, k12 := rs h.k12, l7 := fun _ => ⟨dn_up (hpre _ rfl ⟨4, .data⟩ (by simp) rfl), dn_up (hpre _ rfl ⟨6, .data⟩ (by simp) rfl)⟩, l10 := fun hj => absurd (h.l10 (dn_of hi hj (by decide))).1 (not_dn hi hnd), bl := fun hk => absurd (dn_self hi) hk, res := fun _ => ⟨v', wc, w', hot, hown2, hgw, hat, fun _ => ⟨set_same (by have := h.siz; show _ < t.size; omega), rfl⟩, fun h9 => absurd (h.l10 (dn_of hi h9 (by decide))).1 hns⟩, p0 := rp hi h.p0, p1 := rp hi h.p1, p2 := rp hi h.p2, p3 := rp hi h.p3, p4 := rp hi h.p4, p5 := rp hi h.p5, p6 := rp hi h.p6, p8 := rp hi h.p8, p9 := rp hi h.p9 }⟩
                  · have hi : 8 < d.size := by omega
                    have e0 := h.p0 (hpre _ rfl ⟨0, .data⟩ (by simp) rfl)
                    refine wpOp_plain rfl rfl ?_
                    go_simp
                    exact ⟨_, rfl, { bel := h.bel, siz := (by simpa using h.siz), kp := rk h.kp, k14 := rs h.k14, k12 := rs h.k12, l7 := fun hj => (fun q => ⟨dn_up q.1, dn_up q.2⟩) (h.l7 (dn_of hi hj (by decide))), l10 := fun hj => (fun q => ⟨dn_up q.1, dn_up q.2⟩) (h.l10 (dn_of hi hj (by decide))), bl := fun hk => h.bl (fun q => hk (dn_up q)), res := fun hj => by obtain ⟨u, wp, w5, q1, q2, q3, q4, q5, q6⟩ := h.res (dn_of hi hj (by decide)); exact ⟨u, wp, w5, q1, q2, q3, q4, fun hk => ⟨(set_other (by decide)).trans (q5 (fun q => hk (dn_up q))).1, (q5 (fun q => hk (dn_up q))).2⟩, fun h9 => q6 (dn_of hi h9 (by decide))⟩, p0 := rp hi h.p0, p1 := rp hi h.p1, p2 := rp hi h.p2, p3 := rp hi h.p3, p4 := rp hi h.p4, p5 := rp hi h.p5, p6 := rp hi h.p6, p8 := fun _ => set_same (by have := h.siz; omega), p9 := rp hi h.p9 }⟩
                  · have hi : 9 < d.size := by omega
                    have e8 := h.p8 (hpre _ rfl ⟨8, .data⟩ (by simp) rfl)
                    refine wpOp_plain rfl rfl ?_
                    go_simp
                    exact ⟨_, rfl, { bel := h.bel, siz := (by simpa using h.siz), kp := rk h.kp, k14 := rs h.k14, k12 := rs h.k12, l7 := fun hj => (fun q => ⟨dn_up q.1, dn_up q.2⟩) (h.l7 (dn_of hi hj (by decide))), l10 := fun hj => absurd (h.l10 (dn_of hi hj (by decide))).2 (not_dn hi hnd), bl := fun hk => h.bl (fun q => hk (dn_up q)), res := fun hj => by obtain ⟨u, wp, w5, q1, q2, q3, q4, q5, q6⟩ := h.res (dn_of hi hj (by decide)); exact ⟨u, wp, w5, q1, q2, q3, q4, fun hk => ⟨(set_other (by decide)).trans (q5 (fun q => hk (dn_up q))).1, (q5 (fun q => hk (dn_up q))).2⟩, fun h9 => q6 (dn_of hi h9 (by decide))⟩, p0 := rp hi h.p0, p1 := rp hi h.p1, p2 := rp hi h.p2, p3 := rp hi h.p3, p4 := rp hi h.p4, p5 := rp hi h.p5, p6 := rp hi h.p6, p8 := rp hi h.p8, p9 := fun _ => set_same (by have := h.siz; omega) }⟩
                  · have hi : 10 < d.size := by omega
                    have hnd' := not_dn hi hnd
                    have d7 : dn d 7 := hpre _ rfl ⟨7, .data⟩ (by simp) rfl
                    have e9 := h.p9 (hpre _ rfl ⟨9, .data⟩ (by simp) rfl)
                    obtain ⟨u, wp, w5, q1, q2, q3, q4, q5, q6⟩ := h.res d7
                    obtain ⟨q7, q8⟩ := q5 hnd'
                    subst q8
                    obtain ⟨Au, cu, rfl⟩ := own_form q2
                    obtain ⟨⟨z, z0⟩, z1⟩ := CG.out wp wc q1 q3
                    refine wpOp_plain rfl rfl ?_
                    go_simp
                    exact ⟨_, rfl, { bel := h.bel.setCell (p := ⟨g, i * 5 + 4, none⟩) hgb _, siz := h.siz, kp := h.kp, k14 := h.k14, k12 := h.k12, l7 := fun hj => (fun q => ⟨dn_up q.1, dn_up q.2⟩) (h.l7 (dn_of hi hj (by decide))), l10 := fun _ => ⟨dn_up (hpre _ rfl ⟨7, .data⟩ (by simp) rfl), dn_up (hpre _ rfl ⟨9, .data⟩ (by simp) rfl)⟩, bl := fun hk => absurd (dn_up d7) hk, res := fun _ => ⟨_, wp, wc, q1, q2, q3, q4, fun hk => absurd (dn_self hi) hk, fun _ => rfl⟩, p0 := rn hi h.p0, p1 := rn hi h.p1, p2 := rn hi h.p2, p3 := rn hi h.p3, p4 := rn hi h.p4, p5 := rn hi h.p5, p6 := rn hi h.p6, p8 := rn hi h.p8, p9 := rn hi h.p9 }⟩
                case genda =>
                  intro d a wc hd hI hall
                  obtain ⟨t, rfl, h⟩ := hI
                  have hdn : ∀ j, j < 11 → dn d j := fun j hj => dn_all hd hall hj
                  have hd : ∀ j, (_ : j < 11 := by decide) → dn d j := fun j hj => hdn j hj
                  obtain ⟨t113, x113⟩ : ∃ v, t[113]? = some v := ⟨_, Array.getElem?_eq_getElem (by have := h.siz; omega)⟩
                  have hfe := frame_eq [(106, _), (107, _), (108, _), (109, _), (110, _), (111, _), (112, _), (113, _), (114, _), (115, _)] (h.siz.trans rfl) h.kp rfl ⟨h.p0 (hd 0), h.p1 (hd 1), h.p2 (hd 2), h.p3 (hd 3), h.p4 (hd 4), h.p5 (hd 5), h.p6 (hd 6), x113, h.p8 (hd 8), h.p9 (hd 9), trivial⟩
                  simp only [List.foldl_cons, List.foldl_nil, List.setIfInBounds_toArray, List.set_cons_succ, List.set_cons_zero] at hfe
                  have hbc := h.bel
                  subst hfe
                  have hres := h.res (hd 7)
                  have hd10 := hd 10
                  clear h hdn hd hall
                  obtain ⟨u, wp, w5, hbp, hown5, hg5, hat5, -, hwc⟩ := hres
                  have hwc2 := hwc hd10
                  obtain ⟨Au, cu, rfl⟩ := own_form hown5
                  have HBP : Hid (Below wr.heap.size wr wp) := Lib.hid (HBRX.out.trans (hbp.mono HBRX.out.size))
                  have HQ : Hid (OwnSQ (w5.setCell ⟨g, i * 5 + 4, none⟩ (.slice Au (nt + ns) cu)) (ob + 1) (.slice (some ⟨g, 0, none⟩) n cv) (q.set i (t.code, t.wide, t.high, t.even, (Au, nt + ns, cu))) ((Sg.uniteL a.signs (b.signs.take k)).set i ⟨t.code, t.wide, t.high, t.even, t.values ++ s.values⟩)) := Lib.hid (by
                    refine OwnSQ.put (w := wp) (r := (t.code, t.wide, t.high, t.even, (At, t.values.length, ct))) (r' := (t.code, t.wide, t.high, t.even, (Au, nt + ns, cu))) (s' := ⟨t.code, t.wide, t.high, t.even, t.values ++ s.values⟩) (HOK.out.kept HBP.out) HNX.out HQR.out HXT.out rfl rfl rfl rfl rfl rfl rfl rfl ?_ ?_ ?_
                    · have := hg5
                      rw [HNTE.out] at this
                      exact this
                    · show w5.ownsRow (ob + 1) 60 4 (.slice Au (nt + ns) cu) (t.values ++ s.values).length ((t.values ++ s.values).flatMap encValue)
                      rw [List.length_append, List.flatMap_append, ← HTLE.out, ← HSLE.out]
                      have e1 : tl.length = nt := by rw [HTLE.out, HNTE.out]
                      rw [e1, HSL.out.1]
                      exact hown5
                    · rcases hat5 with h | h
                      · rw [HNTE.out] at h
                        exact .inl (by rw [HNTE.out]; exact h)
                      · refine .inr fun x hx => ?_
                        have hx' : (Value.slice Au (nt + ns) cu).ownBlock = some x := hx
                        rw [h] at hx'
                        cases hx'
                        exact Nat.le_refl _)
                  have HST := Lib.hid (Sg.unite_set HUA.out HUB.out HS.out HTI.out HCT.out)
                  have hgk : ∀ x, (Value.slice At nt ct).ownBlock = some x → ob + 1 ≤ x := fun x hx => (HTV.out.lt x hx).1
                  have hlp : ob < wp.heap.size := Nat.lt_of_lt_of_le hlt3 HBP.out.size
                  have hzE : (w5.setCell ⟨g, i * 5 + 4, none⟩ (.slice Au (nt + ns) cu)).heap[ob]? = some (.cells #[.int .i64 pm, .slice (some ⟨g, 0, none⟩) n cv] 24 (0, 0)) := by
                    rw [Below.heap_setCell _ ⟨g, i * 5 + 4, none⟩ _ _ (by show ob ≠ g; omega)]
                    exact ((hg5.block ob hlp (fun e => by have := hgk ob e.symm; omega)).trans (HBP.out.block ob hlt3)).trans HZ.out
                  have hbE : Below ob w3 (w5.setCell ⟨g, i * 5 + 4, none⟩ (.slice Au (nt + ns) cu)) := ((HBW.out.trans (HBP.out.mono (by omega))).grown hg5 (by omega) (fun x hx => by have := hgk x hx; omega)).setCell (by show ob ≤ g; omega) _
                  have HOD2 : Hid (∀ u ∈ b.signs.take (k + 1), ∀ v ∈ a.signs, v.code = u.code → Sg.oddS v u = false) := Lib.hid (by
                    intro u hu v hv hc
                    rw [List.take_add_one, HS.out] at hu
                    rcases List.mem_append.1 hu with hu | hu
                    · exact HOD.out u hu v hv hc
                    · have e : u = s := by simpa using hu
                      subst e
                      rw [Sg.uniq_mem HUA.out hv (List.mem_of_getElem? HTI.out) (hc.trans HCT.out.symm)]
                      exact HOF.out)
                  rw [← HST.out, ← hwc2] at HQ
                  rw [← hwc2] at hzE hbE
                  have HZE := Lib.hid hzE
                  have HBE := Lib.hid hbE
                  clear hwc hwc2 hbp hown5 hg5 hat5 hgk hlp hzE hbE hbc hd10
                  go_wp2_with fail
                  go_roundg (b.signs.length - (k + 1))
                  case measure => omega
                  case rel => exact ⟨k + 1, .slice (some ⟨g, 0, none⟩) n cv, _, by omega, rfl, by go_num, HBE.out, HZE.out, HQ.out, HOD2.out⟩
        · have hkJ : ¬ (k : Int) < (b.signs.length : Int) := by omega
          have hkb : b.signs.take k = b.signs := List.take_of_length_le (by omega)
          obtain ⟨U, hU⟩ : ∃ U, U = Sg.uniteL a.signs b.signs := ⟨_, rfl⟩
          have HCN : Hid (Sg.clashB a.signs b.signs = false) := Lib.hid (Sg.clash_not (by have := HOD.out; rwa [hkb] at this))
          have HOU : Hid (OwnG KSign 67 wr (ob + 1) (.slice Av n cv) U) := Lib.hid (by rw [hU]; have := HOK.out.toG; rwa [hkb] at this)
          have HNU : Hid (n = U.length) := Lib.hid (by rw [hU]; have := HNX.out; rwa [hkb] at this)
          have HVU : Hid (∀ s ∈ U, s.values.length ≤ 24 ∧ ∀ x ∈ s.values, 1 ≤ x.lo ∧ x.lo ≤ x.hi ∧ x.hi ≤ 9) := Lib.hid (by
            have := Sg.unite_vals HLA.out HLB.out k
            rw [hkb, ← hU] at this
            exact this)
          have HML : Hid (Sg.mergedL a b = ⟨pm, U.map Sg.tidyS⟩) := Lib.hid (by rw [HPM.out, hU]; rfl)
          have HFU : Hid (∀ s ∈ U, Sg.Sign.fits s) := Lib.hid (by rw [hU]; exact Sg.unite_texts (q := fun c => c.size ≤ maxLen) HFA.out HFB.out)
          have HBB := HBW
          have HZB := HZ
          have c1 : wr.cell? ⟨ob, 1, none⟩ = some (.slice Av n cv) := by have := HZ.out; simp [World.cell?, this]
          clear hkb hU HOK HNX HOD HBW HZ HWR
          go_upto_region 26 with fail
          go_cut [15] (fun t wx => t = .bool (decide (200 < U.length)) ∧ wx = wr)
          case first =>
            by_cases h2 : 200 < n
            · have hI : (200 : Int) < (n : Int) := by omega
              have HD : Hid (decide (200 < U.length) = true) := Lib.hid (by rw [← HNU.out]; exact decide_eq_true h2)
              clear h2
              go_wp2_with fail
              go_meet
              exact ⟨by rw [HD.out]; try simp [hI], rfl⟩
            · have hI : ¬ (200 : Int) < (n : Int) := by omega
              have HD : Hid (decide (200 < U.length) = false) := Lib.hid (by rw [← HNU.out]; exact decide_eq_false h2)
              clear h2
              go_wp2_with fail
              go_meet
              exact ⟨by rw [HD.out]; try simp [hI], rfl⟩
          case rest =>
            obtain ⟨rfl, hwx⟩ := hcut
            rename World => wx
            obtain ⟨m0, hm0⟩ : ∃ m, m = decide (200 < U.length) := ⟨_, rfl⟩
            have HM0 := Lib.hid hm0
            rw [← hm0]
            have HB0 : Hid (Below ob w3 wx) := Lib.hid (by rw [hwx]; exact HBB.out)
            have HZ0 : Hid (wx.heap[ob]? = some (.cells #[.int .i64 pm, .slice Av n cv] 24 (0, 0))) := Lib.hid (by rw [hwx]; exact HZB.out)
            have HO0 : Hid (OwnG KSign 67 wx (ob + 1) (.slice Av n cv) U) := Lib.hid (by rw [hwx]; exact HOU.out)
            rw [← hwx] at c1
            clear hwx hm0 HOU HBB HZB H1R
            go_wp2_with fail
            clear c1
            go_loopg [15, 124] n (fun g my i wr => ∃ (k : Nat) (mb : Bool), k ≤ n ∧ g = n - k ∧ my = .bool mb ∧ i = .int .i64 (k : Nat) ∧ mb = (m0 || (U.take k).any fun s => decide (12 < (Sg.tidiedV s.values).length)) ∧ Below ob w3 wr ∧ wr.heap[ob]? = some (.cells #[.int .i64 pm, .slice Av n cv] 24 (0, 0)) ∧ OwnG KSign 67 wr (ob + 1) (.slice Av n cv) ((U.take k).map Sg.tidyS ++ U.drop k))
            case atStart => exact ⟨0, m0, Nat.zero_le _, rfl, rfl, rfl, by simp, HB0.out, HZ0.out, by simpa using HO0.out⟩
            case round =>
              clear hlt3
              obtain ⟨k, mb, hk, rfl, rfl, rfl, hmb, hbel, hz, hown⟩ := hrel
              rename World => wr
              have HMB := Lib.hid hmb
              have HBW := Lib.hid hbel
              have HZ := Lib.hid hz
              have HOK := Lib.hid hown
              have hlt3 : ob < wr.heap.size := (Array.getElem?_eq_some_iff.1 hz).1
              have H1R : Hid (Below W1.heap.size W1 wr) := Lib.hid (H3.out.trans (hbel.mono hobl))
              have HWR : Hid (Below w.heap.size w wr) := Lib.hid (HB3.out.trans (hbel.mono (by omega)))
              clear hmb hbel hz hown HB0 HZ0 HO0
              by_cases hlt : k < n
              · have hys : ((U.take k).map Sg.tidyS ++ U.drop k).length = n := by rw [HNU.out, List.length_append, List.length_map, List.length_take, List.length_drop]; have := HNU.out; omega
                obtain ⟨s, hs⟩ : ∃ s, U[k]? = some s := ⟨_, List.getElem?_eq_getElem (by have := HNU.out; omega)⟩
                have hysk : ((U.take k).map Sg.tidyS ++ U.drop k)[k]? = some s := by
                  have hl : ((U.take k).map Sg.tidyS).length = k := by rw [List.length_map, List.length_take]; have := HNU.out; omega
                  rw [List.getElem?_append_right (by omega), hl, Nat.sub_self, List.getElem?_drop, Nat.add_zero]
                  exact hs
                obtain ⟨g, off, hAv, hgo, hcell⟩ := (HOK.out.rd).five (by omega)
                obtain ⟨rfl, rfl⟩ : Av = some ⟨g, 0, none⟩ ∧ off = 0 := by
                  obtain ⟨cells, ho, -⟩ := HOK.out
                  rcases ho.2 with ⟨e, e0⟩ | ⟨g', cap, cur, e, -⟩
                  · rw [hys] at e0; omega
                  · injection e with e1
                    rw [hAv] at e1
                    injection e1 with e1
                    injection e1 with e2 e3
                    subst e2; subst e3
                    exact ⟨hAv, rfl⟩
                obtain ⟨uv, hrd, -, -, -, -, g4⟩ := hcell k s hysk
                obtain ⟨Au, cu, rfl, hvc, hvm⟩ := rds_form (hrd.keep (ok' := (· < wr.heap.size)) fun b hb => ⟨hb.1, rfl⟩).rds
                obtain ⟨T, hT⟩ : ∃ T, T = Sg.tidiedV s.values := ⟨_, rfl⟩
                have HT := Lib.hid hT
                have hvl := HVU.out s (List.mem_of_getElem? hs)
                have hrds := (hrd.keep (ok' := (· < wr.heap.size)) fun b hb => ⟨hb.1, rfl⟩).rds
                have HTD : Hid (∀ W, Below wr.heap.size wr W → Calls Tryz.prog 84 #[.slice Au s.values.length cu] W (RetVals T W)) := Lib.hid fun W hW => by
                  have h1 := gTidyL_any (.slice Au s.values.length cu) s.values W ((hrds.below hW).more hW.size) (by have := hvl.1; omega) (fun x hx => by have := hvl.2 x hx; omega)
                  rwa [← hT] at h1
                have CM : Hid (∀ W, Below wr.heap.size wr W → W.cell? ⟨ob, 1, none⟩ = some (.slice (some ⟨g, 0, none⟩) n cv) ∧ W.cell? ⟨g, k * 5 + 4, none⟩ = some (.slice Au s.values.length cu) ∧ W.frozen? ⟨g, k * 5 + 4, none⟩ = false) := Lib.hid fun W hW => by
                  have p := (hW.block ob hlt3).trans HZ.out
                  refine ⟨by simp [World.cell?, p], ?_, ?_⟩
                  · have := (hW.cell (p := ⟨g, 0 + k * 5 + 4, none⟩) hgo.1).trans g4
                    rwa [Nat.zero_add] at this
                  · obtain ⟨cells, ho, -⟩ := HOK.out
                    rw [hys] at ho
                    exact own_free (keep_own ho hW) _
                have HS := Lib.hid hs
                have HYS := Lib.hid hysk
                have hg3 : g < wr.heap.size := hgo.1
                have hB3 : ob + 1 ≤ g := hgo.2
                have hBs : ob + 1 ≤ wr.heap.size := by omega
                have hkI : (0 : Int) ≤ (k : Int) := by omega
                have hkJ : (k : Int) < (n : Int) := by omega
                clear hcell hs hysk hrd hT hvl hrds g4 hAv hgo hys
                go_upto_region 30 with fail
                refine wp_region_inv2T (fun T0 => GmbI T0 wr ob g n cv k s.values.length cu Au T) (by kernel_rfl) (by kernel_rfl) ?g0b ?gstepb ?gendb
                case g0b =>
                  have hno : ∀ j, ¬ dn (Array.replicate 13 false) j := by
                    intro j; unfold dn; by_cases hj : j < 13 <;> simp [Array.getD, hj]
                  have na : ∀ {j : Nat} {Z : Prop}, dn (Array.replicate 13 false) j → Z := fun hj => absurd hj (hno _)
                  exact ⟨_, rfl, { bel := (Below.refl _ _).drew, siz := rfl, kp := fun _ _ => rfl, k8 := rfl, k16 := rfl, p0 := na, p1 := na, p2 := na, p3 := na, p4 := na, p5 := na, p6 := na, p7 := na, p8 := na, p9 := fun hj => absurd hj (hno _), p10 := na, p11 := na, l6 := fun hj => absurd hj (hno _), l7 := fun hj => absurd hj (hno _), l8 := fun hj => absurd hj (hno _), l9 := fun hj => absurd hj (hno _), l10 := fun hj => absurd hj (hno _), l11 := fun hj => absurd hj (hno _), l12 := fun hj => absurd hj (hno _), bl := fun _ => (Below.refl _ _).drew, q12 := fun hj => absurd hj (hno _) }⟩
                case gstepb =>
                  intro T0 d a wc i hd hI hi
                  obtain ⟨hlt, hnd, hpre⟩ := mem_ready hi
                  have hd' : d.size = 13 := hd
                  have hin : i < 13 := hlt
                  clear hi hd hlt
                  obtain ⟨t, rfl, h⟩ := hI
                  have hcs : i = 0 ∨ i = 1 ∨ i = 2 ∨ i = 3 ∨ i = 4 ∨ i = 5 ∨ i = 6 ∨ i = 7 ∨ i = 8 ∨ i = 9 ∨ i = 10 ∨ i = 11 ∨ i = 12 := by omega
                  rcases hcs with rfl | rfl | rfl | rfl | rfl | rfl | rfl | rfl | rfl | rfl | rfl | rfl | rfl
                  · have hi : 0 < d.size := by omega
                    have q8 := h.k8
                    refine wpOp_plain rfl rfl ?_
                    go_simp
                    exact ⟨_, rfl, { bel := h.bel, siz := (by simpa using h.siz), kp := rk h.kp, k8 := rs h.k8, k16 := rs h.k16, l6 := fun hj => (fun q => ⟨dn_up q.1, dn_up q.2⟩) (h.l6 (dn_of hi hj (by decide))), l7 := fun hj => dn_up (h.l7 (dn_of hi hj (by decide))), l8 := fun hj => dn_up (h.l8 (dn_of hi hj (by decide))), l9 := fun hj => dn_up (h.l9 (dn_of hi hj (by decide))), l10 := fun hj => (fun q => ⟨dn_up q.1, dn_up q.2⟩) (h.l10 (dn_of hi hj (by decide))), l11 := fun hj => dn_up (h.l11 (dn_of hi hj (by decide))), l12 := fun hj => (fun q => ⟨dn_up q.1, dn_up q.2⟩) (h.l12 (dn_of hi hj (by decide))), bl := fun hk => h.bl (fun q => hk (dn_up q)), q12 := fun hj => h.q12 (dn_of hi hj (by decide)), p0 := fun _ => set_same (by have := h.siz; omega), p1 := rp hi h.p1, p2 := rp hi h.p2, p3 := rp hi h.p3, p4 := rp hi h.p4, p5 := rp hi h.p5, p6 := rp hi h.p6, p7 := rp hi h.p7, p8 := rp hi h.p8, p9 := rc hi h.p9 (fun v h2 => keep_own h2 (Below.refl _ _)), p10 := rp hi h.p10, p11 := rp hi h.p11 }⟩
                  · have hi : 1 < d.size := by omega
                    have e0 := h.p0 (hpre _ rfl ⟨0, .data⟩ (by simp) rfl)
                    have hns : ¬ dn d 12 := fun q => not_dn hi hnd ((h.l10 (h.l11 (h.l12 q).2)).1)
                    obtain ⟨m1, m4, z4⟩ := CM.out wc (h.bl hns)
                    refine wpOp_plain rfl rfl ?_
                    go_simp
                    exact ⟨_, rfl, { bel := h.bel, siz := (by simpa using h.siz), kp := rk h.kp, k8 := rs h.k8, k16 := rs h.k16, l6 := fun hj => (fun q => ⟨dn_up q.1, dn_up q.2⟩) (h.l6 (dn_of hi hj (by decide))), l7 := fun hj => dn_up (h.l7 (dn_of hi hj (by decide))), l8 := fun hj => dn_up (h.l8 (dn_of hi hj (by decide))), l9 := fun hj => dn_up (h.l9 (dn_of hi hj (by decide))), l10 := fun hj => absurd (h.l10 (dn_of hi hj (by decide))).1 (not_dn hi hnd), l11 := fun hj => dn_up (h.l11 (dn_of hi hj (by decide))), l12 := fun hj => (fun q => ⟨dn_up q.1, dn_up q.2⟩) (h.l12 (dn_of hi hj (by decide))), bl := fun hk => h.bl (fun q => hk (dn_up q)), q12 := fun hj => h.q12 (dn_of hi hj (by decide)), p0 := rp hi h.p0, p1 := fun _ => set_same (by have := h.siz; omega), p2 := rp hi h.p2, p3 := rp hi h.p3, p4 := rp hi h.p4, p5 := rp hi h.p5, p6 := rp hi h.p6, p7 := rp hi h.p7, p8 := rp hi h.p8, p9 := rc hi h.p9 (fun v h2 => keep_own h2 (Below.refl _ _)), p10 := rp hi h.p10, p11 := rp hi h.p11 }⟩
                  · have hi : 2 < d.size := by omega
                    have q16 := h.k16
                    refine wpOp_plain rfl rfl ?_
                    go_simp
                    exact ⟨_, rfl, { bel := h.bel, siz := (by simpa using h.siz), kp := rk h.kp, k8 := rs h.k8, k16 := rs h.k16, l6 := fun hj => (fun q => ⟨dn_up q.1, dn_up q.2⟩) (h.l6 (dn_of hi hj (by decide))), l7 := fun hj => dn_up (h.l7 (dn_of hi hj (by decide))), l8 := fun hj => dn_up (h.l8 (dn_of hi hj (by decide))), l9 := fun hj => dn_up (h.l9 (dn_of hi hj (by decide))), l10 := fun hj => absurd (h.l10 (dn_of hi hj (by decide))).2 (not_dn hi hnd), l11 := fun hj => dn_up (h.l11 (dn_of hi hj (by decide))), l12 := fun hj => (fun q => ⟨dn_up q.1, dn_up q.2⟩) (h.l12 (dn_of hi hj (by decide))), bl := fun hk => h.bl (fun q => hk (dn_up q)), q12 := fun hj => h.q12 (dn_of hi hj (by decide)), p0 := rp hi h.p0, p1 := rp hi h.p1, p2 := fun _ => set_same (by have := h.siz; omega), p3 := rp hi h.p3, p4 := rp hi h.p4, p5 := rp hi h.p5, p6 := rp hi h.p6, p7 := rp hi h.p7, p8 := rp hi h.p8, p9 := rc hi h.p9 (fun v h2 => keep_own h2 (Below.refl _ _)), p10 := rp hi h.p10, p11 := rp hi h.p11 }⟩
                  · have hi : 3 < d.size := by omega
                    have q8 := h.k8
                    refine wpOp_plain rfl rfl ?_
                    go_simp
                    exact ⟨_, rfl, { bel := h.bel, siz := (by simpa using h.siz), kp := rk h.kp, k8 := rs h.k8, k16 := rs h.k16, l6 := fun hj => (fun q => ⟨dn_up q.1, dn_up q.2⟩) (h.l6 (dn_of hi hj (by decide))), l7 := fun hj => dn_up (h.l7 (dn_of hi hj (by decide))), l8 := fun hj => dn_up (h.l8 (dn_of hi hj (by decide))), l9 := fun hj => dn_up (h.l9 (dn_of hi hj (by decide))), l10 := fun hj => (fun q => ⟨dn_up q.1, dn_up q.2⟩) (h.l10 (dn_of hi hj (by decide))), l11 := fun hj => dn_up (h.l11 (dn_of hi hj (by decide))), l12 := fun hj => (fun q => ⟨dn_up q.1, dn_up q.2⟩) (h.l12 (dn_of hi hj (by decide))), bl := fun hk => h.bl (fun q => hk (dn_up q)), q12 := fun hj => h.q12 (dn_of hi hj (by decide)), p0 := rp hi h.p0, p1 := rp hi h.p1, p2 := rp hi h.p2, p3 := fun _ => set_same (by have := h.siz; omega), p4 := rp hi h.p4, p5 := rp hi h.p5, p6 := rp hi h.p6, p7 := rp hi h.p7, p8 := rp hi h.p8, p9 := rc hi h.p9 (fun v h2 => keep_own h2 (Below.refl _ _)), p10 := rp hi h.p10, p11 := rp hi h.p11 }⟩
                  · have hi : 4 < d.size := by omega
                    have e3 := h.p3 (hpre _ rfl ⟨3, .data⟩ (by simp) rfl)
                    have hns : ¬ dn d 12 := fun q => not_dn hi hnd ((h.l6 (h.l7 (h.l8 (h.l9 (h.l12 q).1)))).1)
                    obtain ⟨m1, m4, z4⟩ := CM.out wc (h.bl hns)
                    refine wpOp_plain rfl rfl ?_
                    go_simp
                    exact ⟨_, rfl, { bel := h.bel, siz := (by simpa using h.siz), kp := rk h.kp, k8 := rs h.k8, k16 := rs h.k16, l6 := fun hj => absurd (h.l6 (dn_of hi hj (by decide))).1 (not_dn hi hnd), l7 := fun hj => dn_up (h.l7 (dn_of hi hj (by decide))), l8 := fun hj => dn_up (h.l8 (dn_of hi hj (by decide))), l9 := fun hj => dn_up (h.l9 (dn_of hi hj (by decide))), l10 := fun hj => (fun q => ⟨dn_up q.1, dn_up q.2⟩) (h.l10 (dn_of hi hj (by decide))), l11 := fun hj => dn_up (h.l11 (dn_of hi hj (by decide))), l12 := fun hj => (fun q => ⟨dn_up q.1, dn_up q.2⟩) (h.l12 (dn_of hi hj (by decide))), bl := fun hk => h.bl (fun q => hk (dn_up q)), q12 := fun hj => h.q12 (dn_of hi hj (by decide)), p0 := rp hi h.p0, p1 := rp hi h.p1, p2 := rp hi h.p2, p3 := rp hi h.p3, p4 := fun _ => set_same (by have := h.siz; omega), p5 := rp hi h.p5, p6 := rp hi h.p6, p7 := rp hi h.p7, p8 := rp hi h.p8, p9 := rc hi h.p9 (fun v h2 => keep_own h2 (Below.refl _ _)), p10 := rp hi h.p10, p11 := rp hi h.p11 }⟩
                  · have hi : 5 < d.size := by omega
                    have q16 := h.k16
                    refine wpOp_plain rfl rfl ?_
                    go_simp
                    exact ⟨_, rfl, { bel := h.bel, siz := (by simpa using h.siz), kp := rk h.kp, k8 := rs h.k8, k16 := rs h.k16, l6 := fun hj => absurd (h.l6 (dn_of hi hj (by decide))).2 (not_dn hi hnd), l7 := fun hj => dn_up (h.l7 (dn_of hi hj (by decide))), l8 := fun hj => dn_up (h.l8 (dn_of hi hj (by decide))), l9 := fun hj => dn_up (h.l9 (dn_of hi hj (by decide))), l10 := fun hj => (fun q => ⟨dn_up q.1, dn_up q.2⟩) (h.l10 (dn_of hi hj (by decide))), l11 := fun hj => dn_up (h.l11 (dn_of hi hj (by decide))), l12 := fun hj => (fun q => ⟨dn_up q.1, dn_up q.2⟩) (h.l12 (dn_of hi hj (by decide))), bl := fun hk => h.bl (fun q => hk (dn_up q)), q12 := fun hj => h.q12 (dn_of hi hj (by decide)), p0 := rp hi h.p0, p1 := rp hi h.p1, p2 := rp hi h.p2, p3 := rp hi h.p3, p4 := rp hi h.p4, p5 := fun _ => set_same (by have := h.siz; omega), p6 := rp hi h.p6, p7 := rp hi h.p7, p8 := rp hi h.p8, p9 := rc hi h.p9 (fun v h2 => keep_own h2 (Below.refl _ _)), p10 := rp hi h.p10, p11 := rp hi h.p11 }⟩
                  · have hi : 6 < d.size := by omega
                    have e4 := h.p4 (hpre _ rfl ⟨4, .data⟩ (by simp) rfl)
                    have e5 := h.p5 (hpre _ rfl ⟨5, .data⟩ (by simp) rfl)
                    refine wpOp_plain rfl rfl ?_
                    go_simp
                    exact ⟨_, rfl, { bel := h.bel, siz := (by simpa using h.siz), kp := rk h.kp, k8 := rs h.k8, k16 := rs h.k16, l6 := fun _ => ⟨dn_up (hpre _ rfl ⟨4, .data⟩ (by simp) rfl), dn_up (hpre _ rfl ⟨5, .data⟩ (by simp) rfl)⟩, l7 := fun hj => absurd (h.l7 (dn_of hi hj (by decide))) (not_dn hi hnd), l8 := fun hj => dn_up (h.l8 (dn_of hi hj (by decide))), l9 := fun hj => dn_up (h.l9 (dn_of hi hj (by decide))), l10 := fun hj => (fun q => ⟨dn_up q.1, dn_up q.2⟩) (h.l10 (dn_of hi hj (by decide))), l11 := fun hj => dn_up (h.l11 (dn_of hi hj (by decide))), l12 := fun hj => (fun q => ⟨dn_up q.1, dn_up q.2⟩) (h.l12 (dn_of hi hj (by decide))), bl := fun hk => h.bl (fun q => hk (dn_up q)), q12 := fun hj => h.q12 (dn_of hi hj (by decide)), p0 := rp hi h.p0, p1 := rp hi h.p1, p2 := rp hi h.p2, p3 := rp hi h.p3, p4 := rp hi h.p4, p5 := rp hi h.p5, p6 := fun _ => set_same (by have := h.siz; omega), p7 := rp hi h.p7, p8 := rp hi h.p8, p9 := rc hi h.p9 (fun v h2 => keep_own h2 (Below.refl _ _)), p10 := rp hi h.p10, p11 := rp hi h.p11 }⟩
                  · have hi : 7 < d.size := by omega
                    have e6 := h.p6 (hpre _ rfl ⟨6, .data⟩ (by simp) rfl)
                    refine wpOp_plain rfl rfl ?_
                    go_simp
                    exact ⟨_, rfl, { bel := h.bel, siz := (by simpa using h.siz), kp := rk h.kp, k8 := rs h.k8, k16 := rs h.k16, l6 := fun hj => (fun q => ⟨dn_up q.1, dn_up q.2⟩) (h.l6 (dn_of hi hj (by decide))), l7 := fun _ => dn_up (hpre _ rfl ⟨6, .data⟩ (by simp) rfl), l8 := fun hj => absurd (h.l8 (dn_of hi hj (by decide))) (not_dn hi hnd), l9 := fun hj => dn_up (h.l9 (dn_of hi hj (by decide))), l10 := fun hj => (fun q => ⟨dn_up q.1, dn_up q.2⟩) (h.l10 (dn_of hi hj (by decide))), l11 := fun hj => dn_up (h.l11 (dn_of hi hj (by decide))), l12 := fun hj => (fun q => ⟨dn_up q.1, dn_up q.2⟩) (h.l12 (dn_of hi hj (by decide))), bl := fun hk => h.bl (fun q => hk (dn_up q)), q12 := fun hj => h.q12 (dn_of hi hj (by decide)), p0 := rp hi h.p0, p1 := rp hi h.p1, p2 := rp hi h.p2, p3 := rp hi h.p3, p4 := rp hi h.p4, p5 := rp hi h.p5, p6 := rp hi h.p6, p7 := fun _ => set_same (by have := h.siz; omega), p8 := rp hi h.p8, p9 := rc hi h.p9 (fun v h2 => keep_own h2 (Below.refl _ _)), p10 := rp hi h.p10, p11 := rp hi h.p11 }⟩
                  · have hi : 8 < d.size := by omega
                    have e7 := h.p7 (hpre _ rfl ⟨7, .data⟩ (by simp) rfl)
                    have hns : ¬ dn d 12 := fun q => not_dn hi hnd (h.l9 (h.l12 q).1)
                    obtain ⟨m1, m4, z4⟩ := CM.out wc (h.bl hns)
                    refine wpOp_plain rfl rfl ?_
                    go_simp
                    exact ⟨_, rfl, { bel := h.bel, siz := (by simpa using h.siz), kp := rk h.kp, k8 := rs h.k8, k16 := rs h.k16, l6 := fun hj => (fun q => ⟨dn_up q.1, dn_up q.2⟩) (h.l6 (dn_of hi hj (by decide))), l7 := fun hj => dn_up (h.l7 (dn_of hi hj (by decide))), l8 := fun _ => dn_up (hpre _ rfl ⟨7, .data⟩ (by simp) rfl), l9 := fun hj => absurd (h.l9 (dn_of hi hj (by decide))) (not_dn hi hnd), l10 := fun hj => (fun q => ⟨dn_up q.1, dn_up q.2⟩) (h.l10 (dn_of hi hj (by decide))), l11 := fun hj => dn_up (h.l11 (dn_of hi hj (by decide))), l12 := fun hj => (fun q => ⟨dn_up q.1, dn_up q.2⟩) (h.l12 (dn_of hi hj (by decide))), bl := fun hk => h.bl (fun q => hk (dn_up q)), q12 := fun hj => h.q12 (dn_of hi hj (by decide)), p0 := rp hi h.p0, p1 := rp hi h.p1, p2 := rp hi h.p2, p3 := rp hi h.p3, p4 := rp hi h.p4, p5 := rp hi h.p5, p6 := rp hi h.p6, p7 := rp hi h.p7, p8 := fun _ => set_same (by have := h.siz; omega), p9 := rc hi h.p9 (fun v h2 => keep_own h2 (Below.refl _ _)), p10 := rp hi h.p10, p11 := rp hi h.p11 }⟩
                  · have hi : 9 < d.size := by omega
                    have hns : ¬ dn d 12 := fun q => not_dn hi hnd (h.l12 q).1
                    have e8 := h.p8 (hpre _ rfl ⟨8, .data⟩ (by simp) rfl)
                    refine wpOp_plain rfl rfl ?_
                    go_simp
                    refine (HTD.out wc (h.bl hns)).mono ?_
                    rintro e1 w1 ⟨y1, rfl, hq1, hb⟩
                    exact ⟨_, rfl, { bel := h.bel.trans (hb.mono (Nat.le_trans hBs h.bel.size)), siz := (by simpa using h.siz), kp := rk h.kp, k8 := rs h.k8, k16 := rs h.k16, l6 := fun hj => (fun q => ⟨dn_up q.1, dn_up q.2⟩) (h.l6 (dn_of hi hj (by decide))), l7 := fun hj => dn_up (h.l7 (dn_of hi hj (by decide))), l8 := fun hj => dn_up (h.l8 (dn_of hi hj (by decide))), l9 := fun _ => dn_up (hpre _ rfl ⟨8, .data⟩ (by simp) rfl), l10 := fun hj => (fun q => ⟨dn_up q.1, dn_up q.2⟩) (h.l10 (dn_of hi hj (by decide))), l11 := fun hj => dn_up (h.l11 (dn_of hi hj (by decide))), l12 := fun hj => absurd (h.l12 (dn_of hi hj (by decide))).1 (not_dn hi hnd), bl := fun _ => (h.bl hns).trans (hb.mono (h.bl hns).size), q12 := fun hj => absurd (dn_of hi hj (by decide)) hns, p0 := rp hi h.p0, p1 := rp hi h.p1, p2 := rp hi h.p2, p3 := rp hi h.p3, p4 := rp hi h.p4, p5 := rp hi h.p5, p6 := rp hi h.p6, p7 := rp hi h.p7, p8 := rp hi h.p8, p9 := fun _ => ⟨_, set_same (by have := h.siz; omega), hq1.mono (h.bl hns).size⟩, p10 := rp hi h.p10, p11 := rp hi h.p11 }⟩
                  · have hi : 10 < d.size := by omega
                    have e1 := h.p1 (hpre _ rfl ⟨1, .data⟩ (by simp) rfl)
                    have e2 := h.p2 (hpre _ rfl ⟨2, .data⟩ (by simp) rfl)
                    refine wpOp_plain rfl rfl ?_
                    go_simp
                    exact ⟨_, rfl, { bel := h.bel, siz := (by simpa using h.siz), kp := rk h.kp, k8 := rs h.k8, k16 := rs h.k16, l6 := fun hj => (fun q => ⟨dn_up q.1, dn_up q.2⟩) (h.l6 (dn_of hi hj (by decide))), l7 := fun hj => dn_up (h.l7 (dn_of hi hj (by decide))), l8 := fun hj => dn_up (h.l8 (dn_of hi hj (by decide))), l9 := fun hj => dn_up (h.l9 (dn_of hi hj (by decide))), l10 := fun _ => ⟨dn_up (hpre _ rfl ⟨1, .data⟩ (by simp) rfl), dn_up (hpre _ rfl ⟨2, .data⟩ (by simp) rfl)⟩, l11 := fun hj => absurd (h.l11 (dn_of hi hj (by decide))) (not_dn hi hnd), l12 := fun hj => (fun q => ⟨dn_up q.1, dn_up q.2⟩) (h.l12 (dn_of hi hj (by decide))), bl := fun hk => h.bl (fun q => hk (dn_up q)), q12 := fun hj => h.q12 (dn_of hi hj (by decide)), p0 := rp hi h.p0, p1 := rp hi h.p1, p2 := rp hi h.p2, p3 := rp hi h.p3, p4 := rp hi h.p4, p5 := rp hi h.p5, p6 := rp hi h.p6, p7 := rp hi h.p7, p8 := rp hi h.p8, p9 := rc hi h.p9 (fun v h2 => keep_own h2 (Below.refl _ _)), p10 := fun _ => set_same (by have := h.siz; omega), p11 := rp hi h.p11 }⟩
                  · have hi : 11 < d.size := by omega
                    have e10 := h.p10 (hpre _ rfl ⟨10, .data⟩ (by simp) rfl)
                    refine wpOp_plain rfl rfl ?_
                    go_simp
                    exact ⟨_, rfl, { bel := h.bel, siz := (by simpa using h.siz), kp := rk h.kp, k8 := rs h.k8, k16 := rs h.k16, l6 := fun hj => (fun q => ⟨dn_up q.1, dn_up q.2⟩) (h.l6 (dn_of hi hj (by decide))), l7 := fun hj => dn_up (h.l7 (dn_of hi hj (by decide))), l8 := fun hj => dn_up (h.l8 (dn_of hi hj (by decide))), l9 := fun hj => dn_up (h.l9 (dn_of hi hj (by decide))), l10 := fun hj => (fun q => ⟨dn_up q.1, dn_up q.2⟩) (h.l10 (dn_of hi hj (by decide))), l11 := fun _ => dn_up (hpre _ rfl ⟨10, .data⟩ (by simp) rfl), l12 := fun hj => absurd (h.l12 (dn_of hi hj (by decide))).2 (not_dn hi hnd), bl := fun hk => h.bl (fun q => hk (dn_up q)), q12 := fun hj => h.q12 (dn_of hi hj (by decide)), p0 := rp hi h.p0, p1 := rp hi h.p1, p2 := rp hi h.p2, p3 := rp hi h.p3, p4 := rp hi h.p4, p5 := rp hi h.p5, p6 := rp hi h.p6, p7 := rp hi h.p7, p8 := rp hi h.p8, p9 := rc hi h.p9 (fun v h2 => keep_own h2 (Below.refl _ _)), p10 := rp hi h.p10, p11 := fun _ => set_same (by have := h.siz; omega) }⟩
                  · have hi : 12 < d.size := by omega
                    obtain ⟨v9, e9, r9⟩ := h.p9 (hpre _ rfl ⟨9, .data⟩ (by simp) rfl)
                    have e11 := h.p11 (hpre _ rfl ⟨11, .data⟩ (by simp) rfl)
                    have hns : ¬ dn d 12 := not_dn hi hnd
                    obtain ⟨m1, m4, z4⟩ := CM.out wc (h.bl hns)
                    obtain ⟨A9, c9, rfl⟩ := own_form r9
                    refine wpOp_plain rfl rfl ?_
                    go_simp
                    exact ⟨_, rfl, { bel := h.bel.setCell (p := ⟨g, k * 5 + 4, none⟩) hB3 _, siz := h.siz, kp := h.kp, k8 := h.k8, k16 := h.k16, l6 := fun hj => (fun q => ⟨dn_up q.1, dn_up q.2⟩) (h.l6 (dn_of hi hj (by decide))), l7 := fun hj => dn_up (h.l7 (dn_of hi hj (by decide))), l8 := fun hj => dn_up (h.l8 (dn_of hi hj (by decide))), l9 := fun hj => dn_up (h.l9 (dn_of hi hj (by decide))), l10 := fun hj => (fun q => ⟨dn_up q.1, dn_up q.2⟩) (h.l10 (dn_of hi hj (by decide))), l11 := fun hj => dn_up (h.l11 (dn_of hi hj (by decide))), l12 := fun _ => ⟨dn_up (hpre _ rfl ⟨9, .data⟩ (by simp) rfl), dn_up (hpre _ rfl ⟨11, .data⟩ (by simp) rfl)⟩, bl := fun hk => absurd (dn_self hi) hk, q12 := fun _ => ⟨wc, _, h.bl hns, r9, rfl⟩, p0 := rn hi h.p0, p1 := rn hi h.p1, p2 := rn hi h.p2, p3 := rn hi h.p3, p4 := rn hi h.p4, p5 := rn hi h.p5, p6 := rn hi h.p6, p7 := rn hi h.p7, p8 := rn hi h.p8, p9 := fun _ => ⟨_, e9, own_side r9 hg3 _⟩, p10 := rn hi h.p10, p11 := rn hi h.p11 }⟩
                case gendb =>
                  intro d a wc hd hI hall
                  obtain ⟨t, rfl, h⟩ := hI
                  have hdn : ∀ j, j < 13 → dn d j := fun j hj => dn_all hd hall hj
                  have hd : ∀ j, (_ : j < 13 := by decide) → dn d j := fun j hj => hdn j hj
                  obtain ⟨v9, e9, r9⟩ := h.p9 (hd 9)
                  obtain ⟨wp, vT, hbp, hop, rfl⟩ := h.q12 (hdn 12 (by omega))
                  have hfe := frame_eq [(127, _), (128, _), (129, _), (130, _), (131, _), (132, _), (133, _), (134, _), (135, _), (136, v9), (137, _), (138, _)] (h.siz.trans rfl) h.kp rfl ⟨h.p0 (hd 0), h.p1 (hd 1), h.p2 (hd 2), h.p3 (hd 3), h.p4 (hd 4), h.p5 (hd 5), h.p6 (hd 6), h.p7 (hd 7), h.p8 (hd 8), e9, h.p10 (hd 10), h.p11 (hd 11), trivial⟩
                  simp only [List.foldl_cons, List.foldl_nil, List.setIfInBounds_toArray, List.set_cons_succ, List.set_cons_zero] at hfe
                  have hbc := h.bel
                  subst hfe
                  clear h hdn hd hall
                  have hys : ((U.take k).map Sg.tidyS ++ U.drop k).length = n := by rw [HNU.out, List.length_append, List.length_map, List.length_take, List.length_drop]; have := HNU.out; omega
                  have HOG := Lib.hid (ownG_set (HOK.out.kept hbp) HYS.out hop hg3 hBs)
                  have hset : ((U.take k).map Sg.tidyS ++ U.drop k).set k (⟨s.code, s.wide, s.high, s.even, T⟩ : Sg.Sign) = (U.take (k + 1)).map Sg.tidyS ++ U.drop (k + 1) := by
                    have hkU : k < U.length := by have := HNU.out; omega
                    have hl : ((U.take k).map Sg.tidyS).length = k := by rw [List.length_map, List.length_take]; omega
                    rw [List.set_append_right _ _ (by omega), hl, Nat.sub_self, List.drop_eq_getElem_cons hkU, List.set_cons_zero, List.take_add_one, HS.out, HT.out]
                    simp [Sg.tidyS]
                  rw [hset] at HOG
                  have hgn : ob ≠ g := by omega
                  have hlp : ob < wp.heap.size := Nat.lt_of_lt_of_le hlt3 hbp.size
                  have hzE : (wp.setCell ⟨g, k * 5 + 4, none⟩ vT).heap[ob]? = some (.cells #[.int .i64 pm, .slice (some ⟨g, 0, none⟩) n cv] 24 (0, 0)) := ((Below.heap_setCell _ ⟨g, k * 5 + 4, none⟩ _ _ hgn).trans (hbp.block ob hlt3)).trans HZ.out
                  have HBE : Hid (Below ob w3 (wp.setCell ⟨g, k * 5 + 4, none⟩ vT)) := Lib.hid ((HBW.out.trans (hbp.mono (by omega))).setCell (by show ob ≤ g; omega) _)
                  obtain ⟨wE, hwE⟩ : ∃ W, W = wp.setCell ⟨g, k * 5 + 4, none⟩ vT := ⟨_, rfl⟩
                  rw [← hwE] at HOG HBE hzE ⊢
                  have HZE := Lib.hid hzE
                  have hsE : ((U.take (k + 1)).map Sg.tidyS ++ U.drop (k + 1))[k]? = some ⟨s.code, s.wide, s.high, s.even, T⟩ := by
                    rw [← hset, List.getElem?_set_self (by rw [hys]; exact hlt)]
                  obtain ⟨g', off', hAv', -, hcell'⟩ := (HOG.out.rd).five (by rw [← hset, List.length_set, hys]; omega)
                  injection hAv' with hAv'
                  injection hAv' with e1 e2
                  subst e1; subst e2
                  obtain ⟨uv, hrd', -, -, -, -, g4'⟩ := hcell' k _ hsE
                  obtain ⟨Atd, cT, rfl, -, -⟩ := rds_form (hrd'.keep (ok' := (· < wE.heap.size)) fun b hb => ⟨hb.1, rfl⟩).rds
                  have n4 : wE.cell? ⟨g, k * 5 + 4, none⟩ = some (.slice Atd T.length cT) := by rw [Nat.zero_add] at g4'; exact g4'
                  have n1 : wE.cell? ⟨ob, 1, none⟩ = some (.slice (some ⟨g, 0, none⟩) n cv) := (cells2 hzE).2.1
                  have HTA : Hid ((U.take (k + 1)).any (fun s => decide (12 < (Sg.tidiedV s.values).length)) = ((U.take k).any (fun s => decide (12 < (Sg.tidiedV s.values).length)) || decide (12 < T.length))) := Lib.hid (by
                    rw [List.take_add_one, HS.out, HT.out]
                    simp)
                  clear hwE hbp hop hset hbc e9 r9 hgn hlp hzE hsE hcell' hrd' g4' hys
                  cases mb
                  · by_cases h12 : 12 < T.length
                    · have hI : (12 : Int) < (T.length : Int) := by omega
                      have HMB2 : Hid (true = (m0 || (U.take (k + 1)).any fun s => decide (12 < (Sg.tidiedV s.values).length))) := Lib.hid (by rw [HTA.out, decide_eq_true h12]; simp)
                      clear h12
                      go_wp2_with fail
                      go_roundg (n - (k + 1))
                      case measure => omega
                      case rel => exact ⟨k + 1, true, by omega, rfl, by first | rfl | simp [hI], by go_num, HMB2.out, HBE.out, HZE.out, HOG.out⟩
                    · have hI : ¬ (12 : Int) < (T.length : Int) := by omega
                      have HMB2 : Hid (false = (m0 || (U.take (k + 1)).any fun s => decide (12 < (Sg.tidiedV s.values).length))) := Lib.hid (by rw [HTA.out, decide_eq_false h12, Bool.or_false]; exact HMB.out)
                      clear h12
                      go_wp2_with fail
                      go_roundg (n - (k + 1))
                      case measure => omega
                      case rel => exact ⟨k + 1, false, by omega, rfl, by first | rfl | simp [hI], by go_num, HMB2.out, HBE.out, HZE.out, HOG.out⟩
                  · have HMB2 : Hid (true = (m0 || (U.take (k + 1)).any fun s => decide (12 < (Sg.tidiedV s.values).length))) := Lib.hid (by rw [HTA.out, ← Bool.or_assoc, ← HMB.out]; rfl)
                    go_wp2_with fail
                    go_roundg (n - (k + 1))
                    case measure => omega
                    case rel => exact ⟨k + 1, true, by omega, rfl, rfl, by go_num, HMB2.out, HBE.out, HZE.out, HOG.out⟩
              · have hkJ : ¬ (k : Int) < (n : Int) := by omega
                have hUk : U.take k = U := List.take_of_length_le (by have := HNU.out; omega)
                have hUd : U.drop k = [] := List.drop_eq_nil_of_le (by have := HNU.out; omega)
                have HRG : Hid (RdG KSign wr (fun b => b < wr.heap.size ∧ ob + 1 ≤ b) (.slice Av n cv) (U.map Sg.tidyS)) := Lib.hid (by
                  have := HOK.out.rd
                  rwa [hUk, hUd, List.append_nil] at this)
                have HMN : Hid (mb = Sg.manyL (Sg.mergedL a b).signs) := Lib.hid (by
                  rw [HML.out, Sg.many_tidy, HMB.out, HM0.out, hUk])
                clear hUk hUd
                obtain ⟨c0', c1', z0', z1'⟩ := CR.out wr H1R.out
                obtain ⟨m0', m1', -, -⟩ := cells2 HZ.out
                cases mb
                · have HN : Hid (re = 0 ∧ rl = Sg.mergedL a b) := Lib.hid (by
                    have := Sg.merge_done (a := a) (b := b) HLA.out HLB.out HCN.out HMN.out.symm
                    rw [HRE.out.1, HRE.out.2] at this
                    exact this)
                  go_wp2_with fail
                  refine bodyPost_ret (v := .tuple #[.agg #[.int .i64 pm, .slice Av n cv], .int .i64 0]) (by simp [results, Tryz.results48, go_sem, c0', c1']) rfl ?_
                  rw [HN.out.1, HN.out.2, HML.out]
                  refine ⟨_, rfl, ?_, (HWR.out.setCell (by show w.heap.size ≤ w.heap.size + 2; omega) _).setCell (by show w.heap.size ≤ w.heap.size + 2; omega) _⟩
                  refine ⟨⟨_, rfl, HRG.out.keep fun j hj => ⟨by simp [World.setCell]; omega, ?_⟩⟩, fun s hs => ?_⟩
                  · rw [Below.heap_setCell _ ⟨w.heap.size + 2, 1, none⟩ _ _ (by show j ≠ w.heap.size + 2; omega), Below.heap_setCell _ ⟨w.heap.size + 2, 0, none⟩ _ _ (by show j ≠ w.heap.size + 2; omega)]
                  · obtain ⟨u, hu, rfl⟩ := List.mem_map.1 hs
                    exact Sg.tidyS_fits (HFU.out u hu)
                · have HN : Hid (re = 2 ∧ rl = Sg.noL) := Lib.hid (by
                    have := Sg.merge_many (a := a) (b := b) HLA.out HLB.out HCN.out HMN.out.symm
                    rw [HRE.out.1, HRE.out.2] at this
                    exact this)
                  go_wp2_with fail
                  refine bodyPost_ret (v := .tuple #[.agg #[.int .i64 0, .slice none 0 0], .int .i64 2]) (by simp [results, Tryz.results48, go_sem, c0', c1']) rfl ?_
                  exact RetListE.zero HN.out.2 HN.out.1 ((HWR.out.setCell (by show w.heap.size ≤ w.heap.size + 2; omega) _).setCell (by show w.heap.size ≤ w.heap.size + 2; omega) _)
end Go.Proofs.YtkmimjngmfdpmaaGreatDoor
