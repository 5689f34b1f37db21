/- lexicon.Ways. Made by gen_ways.py. -/
import Derived.Test.YtpmnpnlfgfleeaaGreatDoorMgWaysPlain
import Derived.Test.YtpmnpnlfgfleeaaGreatDoorMgWithF
import Derived.Test.YtpmnpnlfgfleeaaGreatDoorMgCuts
import Derived.Test.YtpmnpnlfgfleeaaGreatDoorMgRegion4
namespace Go.Proofs.YtpmnpnlfgfleeaaGreatDoor
open Go.RowKit

def RetNN (a b : Int) (w : World) (e : Ending) (w' : World) : Prop := e = .returned (.tuple #[.int .i64 a, .int .i64 b]) ∧ Below w.heap.size w w'
theorem ret_nn {a b c d : Int} (h : a = b) (h' : c = d) : Ending.returned (.tuple #[.int .i64 a, .int .i64 c]) = .returned (.tuple #[.int .i64 b, .int .i64 d]) := by rw [h, h']
theorem make_ints (n : Nat) (hn : n ≤ 1000) : ∃ arr0 : Array Value, arr0.size = n + 1 ∧ (∀ j, j ≤ n → arr0[j]? = some (.int .i64 0)) ∧
    ∀ W : World, (Instr.makeSlice 27 (.int .i64 ((n : Int) + 1)) (.int .i64 ((n : Int) + 1))).run Tryz.prog W = .ok (.slice (some ⟨W.heap.size, 0, none⟩) (n + 1) (n + 1)) (W.alloc (.cells arr0 3)) := by
  obtain ⟨i0, hi0, hz0, hs0, hb0⟩ := info_parts info_int
  refine ⟨madeCells #[.int .i64 0] (n + 1), size_madeCells _ _, fun j hj => ?_, fun W => ?_⟩
  · rw [← Array.getElem?_toList, toList_madeCells_one]
    rw [List.getElem?_replicate_of_lt (by omega)]
  · have := run_make (P := Tryz.prog) W 27 3 i0 _ Tryz.underlying27 hi0 hz0 .i64 .i64 ((n : Int) + 1) ((n : Int) + 1) (by omega) (by omega) (by rw [hb0]; omega) (by omega)
    rw [this, hs0, show ((n : Int) + 1).toNat = n + 1 by omega, Nat.mul_one]
    rfl
/-- a row of numbers -/
def RdN (w : World) (g n : Nat) (T : Nat → Nat) : Prop := ∃ arr : Array Value, w.heap[g]? = some (.cells arr 3 (0, 0)) ∧ arr.size = n + 1 ∧ ∀ j, j ≤ n → arr[j]? = some (.int .i64 (T j : Nat))
theorem RdN.cell {w : World} {g n : Nat} {T : Nat → Nat} (h : RdN w g n T) {j : Nat} (hj : j ≤ n) : w.cell? ⟨g, j, none⟩ = some (.int .i64 (T j : Nat)) := by
  obtain ⟨arr, h1, _, h3⟩ := h
  simp [World.cell?, h1, h3 j hj]
theorem RdN.frozen {w : World} {g n : Nat} {T : Nat → Nat} (h : RdN w g n T) (j : Nat) : w.frozen? ⟨g, j, none⟩ = false := by
  obtain ⟨arr, h1, _, _⟩ := h
  simp [World.frozen?, h1]
theorem RdN.block {w w' : World} {g n : Nat} {T : Nat → Nat} (h : RdN w g n T) (hb : w'.heap[g]? = w.heap[g]?) : RdN w' g n T := by
  obtain ⟨arr, h1, h2⟩ := h
  exact ⟨arr, hb.trans h1, h2⟩
theorem RdN.set {w w' : World} {g n : Nat} {T : Nat → Nat} {i v : Nat} (h : RdN w g n T) (hi : i ≤ n) (hb : w'.heap = (w.setCell ⟨g, i, none⟩ (.int .i64 (v : Nat))).heap) : RdN w' g n (Lx.upd T i v) := by
  obtain ⟨arr, h1, h2, h3⟩ := h
  refine ⟨arr.setIfInBounds i (.int .i64 (v : Nat)), ?_, by simpa using h2, fun j hj => ?_⟩
  · rw [hb]; simp [World.setCell, Array.getElem?_modify, h1]
  · by_cases hji : j = i
    · subst hji
      rw [set_same (by omega), Lx.upd_at]
    · rw [set_other hji, Lx.upd_ne T v hji, h3 j hj]
theorem cell_heap {w w' : World} (h : w'.heap = w.heap) (p : Addr) : w'.cell? p = w.cell? p := by unfold World.cell?; rw [h]
theorem frozen_heap {w w' : World} (h : w'.heap = w.heap) (p : Addr) : w'.frozen? p = w.frozen? p := by unfold World.frozen?; rw [h]
theorem matches_cells {w : World} {ok : Nat → Prop} {A : Option Addr} {n c : Nat} {ms : List Lx.Match} (h : RdMs w ok (.slice A n c) ms) {a : Nat} {m : Lx.Match} (hm : ms[a]? = some m) : ∃ b off s2, A = some ⟨b, off, none⟩ ∧ ok b ∧ w.cell? ⟨b, off + a * 4, none⟩ = some (.int .i64 m.entry) ∧
    w.cell? ⟨b, off + a * 4 + 1, none⟩ = some (.int .i64 m.ending) ∧ w.cell? ⟨b, off + a * 4 + 2, none⟩ = some s2 ∧ (∃ A' n' c', s2 = .slice A' n' c') ∧ w.cell? ⟨b, off + a * 4 + 3, none⟩ = some (.int .i64 m.long) := by
  obtain ⟨A', c', hv, _, _, hh⟩ := h
  cases hv
  obtain ⟨b, off, hA, hb, hc⟩ := hh (by have := (List.getElem?_eq_some_iff.1 hm).1; omega)
  obtain ⟨q0, q1, ⟨s2, q2, q4⟩, q3⟩ := hc a m hm
  obtain ⟨A2, c2, e, _⟩ := q4
  exact ⟨b, off, s2, hA, hb, q0, q1, q2, ⟨_, _, _, e⟩, q3⟩
structure WyR (T0 : Array Value) (W0 : World) (Bs gb n i mb L va vb : Nat) (d : Array Bool) (t : Array Value) (wc : World) : Prop where
  bel : Below Bs W0 wc
  siz : t.size = 66
  kp : ∀ i, i ∉ ([46, 47, 48, 49, 50, 51, 52, 53, 54, 55, 56, 57, 58, 59, 60, 61] : List Nat) → t[i]? = T0[i]?
  k8 : t[8]? = some (.slice (some ⟨gb, 0, none⟩) (n + 1) (n + 1))
  k9 : t[9]? = some (.int .i64 (i : Int))
  k11 : t[11]? = some (.pointer (some ⟨mb, 0, none⟩))
  p0 : dn d 0 → t[46]? = some (.slice (some ⟨gb, 0, none⟩) (n + 1) (n + 1))
  p1 : dn d 1 → t[47]? = some (.int .i64 (i : Int))
  p2 : dn d 2 → t[48]? = some (.slice (some ⟨gb, 0, none⟩) (n + 1) (n + 1))
  p3 : dn d 3 → t[49]? = some (.int .i64 (i : Int))
  p4 : dn d 4 → t[50]? = some (.pointer (some ⟨gb, i, none⟩))
  p5 : dn d 5 → t[51]? = some (.int .i64 (va : Int))
  p6 : dn d 6 → t[52]? = some (.slice (some ⟨gb, 0, none⟩) (n + 1) (n + 1))
  p7 : dn d 7 → t[53]? = some (.int .i64 (i : Int))
  p8 : dn d 8 → t[54]? = some (.pointer (some ⟨mb, 3, none⟩))
  p9 : dn d 9 → t[55]? = some (.int .i64 (L : Int))
  p10 : dn d 10 → t[56]? = some (.int .i64 ((i : Int) + (L : Int)))
  p11 : dn d 11 → t[57]? = some (.pointer (some ⟨gb, i + L, none⟩))
  p12 : dn d 12 → t[58]? = some (.int .i64 (vb : Int))
  p13 : dn d 13 → t[59]? = some (.int .i64 ((va : Int) + (vb : Int)))
  p14 : dn d 14 → t[60]? = some (.int .i64 ((Lx.addTo va vb : Nat) : Int))
  p15 : dn d 15 → t[61]? = some (.pointer (some ⟨gb, i, none⟩))
  l13 : dn d 13 → dn d 5 ∧ dn d 12
  l14 : dn d 14 → dn d 13
  l16 : dn d 16 → dn d 14
  hp : ¬ dn d 16 → wc.heap = W0.heap
  q16 : dn d 16 → wc.heap = (W0.setCell ⟨gb, i, none⟩ (.int .i64 ((Lx.addTo va vb : Nat) : Int))).heap
def WyI (T0 : Array Value) (W0 : World) (Bs gb n i mb L va vb : Nat) (d : Array Bool) (a : Act) (wc : World) : Prop := ∃ t : Array Value, a = ⟨t, []⟩ ∧ WyR T0 W0 Bs gb n i mb L va vb d t wc

set_option maxRecDepth 100000 in
set_option maxHeartbeats 4000000 in
theorem Ways_bad (x : Lx.Lexicon) (s : ByteArray) (vx : Value) (w : World) (hr : RdL w w.heap.size vx x) (hs : s.size ≤ 1000) (hz : Lx.speechV x s ≠ 0) :
    Calls Tryz.prog 18 #[vx, .string s] w (RetNN 0 (Lx.speechV x s) w) := by
  have HSP : Hid (∀ (W : World), Below w.heap.size w W → Calls Tryz.prog 41 #[vx, .string s] W (RetIB (Lx.speechV x s) W)) := Lib.hid fun W hW => speech_any vx x s W ((hr.below hW).more hW.size) (by simp only [maxLen]; omega)
  obtain ⟨⟨v0, v1, v2, rfl, ⟨A0, c0, rfl, -⟩, ⟨A1, c1, rfl, -⟩, ⟨A2, c2, rfl, -⟩⟩, -, -, -⟩ := hr
  generalize Lx.speechV x s = cv at *
  have hq : (cv == 0) = false := by simp [hz]
  have hq' : (cv != 0) = true := by simp [hz]
  clear hz
  go_enter Tryz.func18, Tryz.ntmps18
  go_wp2_with fail
  refine (HSP.out _ ((Below.refl _ _).alloc (Nat.le_refl _) _)).mono ?_
  rintro e1 w1 ⟨rfl, hb1⟩
  have HB1 := Lib.hid (((Below.refl w.heap.size w).alloc (Nat.le_refl _) (.cells #[.slice A0 x.entries.length c0, .slice A1 x.endings.length c1, .slice A2 x.clitics.length c2] 26)).trans (hb1.mono (by simp)))
  clear hb1
  go_wp2_with fail
  go_ret2
  exact ⟨rfl, HB1.out⟩

set_option maxRecDepth 100000 in
set_option maxHeartbeats 8000000 in
theorem Ways_good (x : Lx.Lexicon) (s : ByteArray) (vx : Value) (w : World) (hr : RdL w w.heap.size vx x) (hz : Lx.speechV x s = 0) :
    Calls Tryz.prog 18 #[vx, .string s] w (RetNN ((Lx.wayT (Lx.ats x s) s.size s.size 0 : Nat)) 0 w) := by
  obtain ⟨hchk, hsb⟩ := Lx.speech_parts hz
  obtain ⟨hs1, hs2, hal⟩ := Lx.sounds_size hsb
  have HSP : Hid (∀ (W : World), Below w.heap.size w W → Calls Tryz.prog 41 #[vx, .string s] W (RetIB (Lx.speechV x s) W)) := Lib.hid fun W hW => speech_any vx x s W ((hr.below hW).more hW.size) (by simp only [maxLen]; omega)
  have HBG : Hid (∀ (W : World), Below w.heap.size w W → Calls Tryz.prog 46 #[vx, .string s] W (fun e w' => ∃ a0 a1 a2 v, vx = .agg #[a0, a1, a2] ∧ e = .returned (.agg #[a0, a1, a2, v, .int .i64 s.size]) ∧ OwnT w' W.heap.size v (Lx.beginV x s) ∧ Below W.heap.size W w')) :=
    Lib.hid fun W hW => begin_any x s hchk hs2 hal vx W ((hr.below hW).more hW.size)
  have HZ := Lib.hid hz
  have HFIT : Hid (∀ i m, m ∈ Lx.ats x s i → 1 ≤ m.long ∧ (i ≤ s.size → i + m.long ≤ s.size)) := Lib.hid fun i m hm => by
    have h := Lx.matchesV_fits hchk m hm
    have h2 := h.le
    rw [ByteArray.size_extract] at h2
    exact ⟨h.pos, fun _ => by omega⟩
  obtain ⟨⟨v0, v1, v2, rfl, ⟨A0, c0, rfl, -⟩, ⟨A1, c1, rfl, -⟩, ⟨A2, c2, rfl, -⟩⟩, -, -, -⟩ := hr
  have hs64 : s.size ≤ 9223372036854775807 := by omega
  clear hz hchk hsb hal
  go_enter Tryz.func18, Tryz.ntmps18
  go_wp2_with fail
  refine (HSP.out _ ((Below.refl _ _).alloc (Nat.le_refl _) _)).mono ?_
  rw [HZ.out]
  rintro e1 w1 ⟨rfl, hb1⟩
  have hX1 : w1.heap[w.heap.size]? = some (.cells #[.slice A0 x.entries.length c0, .slice A1 x.endings.length c1, .slice A2 x.clitics.length c2] 26 (0, 0)) := (hb1.block _ (by simp)).trans (heap_alloc_new _ _)
  have x0 : w1.cell? ⟨w.heap.size, 0, none⟩ = some (.slice A0 x.entries.length c0) := by simp [World.cell?, hX1]
  have x1 : w1.cell? ⟨w.heap.size, 1, none⟩ = some (.slice A1 x.endings.length c1) := by simp [World.cell?, hX1]
  have x2 : w1.cell? ⟨w.heap.size, 2, none⟩ = some (.slice A2 x.clitics.length c2) := by simp [World.cell?, hX1]
  have HB1 := Lib.hid (((Below.refl w.heap.size w).alloc (Nat.le_refl _) (.cells #[.slice A0 x.entries.length c0, .slice A1 x.endings.length c1, .slice A2 x.clitics.length c2] 26)).trans (hb1.mono (by simp)))
  clear hb1 hX1
  go_wp2_with fail
  refine (HBG.out _ HB1.out).mono ?_
  rintro e3 w3 ⟨a0, a1, a2, vt, hve, rfl, hot, hb3⟩
  obtain ⟨rfl, rfl, rfl⟩ : Value.slice A0 x.entries.length c0 = a0 ∧ Value.slice A1 x.endings.length c1 = a1 ∧ Value.slice A2 x.clitics.length c2 = a2 := by simpa using hve
  have hbl : (Lx.beginV x s).length = s.size := Lx.beginTo_len _ _ _
  obtain ⟨gt, ct, rfl, hgl, hgat⟩ := ownT_at hot (by omega)
  rw [hbl]
  have HAT : Hid (∀ i, i < s.size → ∃ u, w3.cell? ⟨gt, i, none⟩ = some u ∧ RdMs w3 (fun b => b < w3.heap.size) u (Lx.ats x s i)) := Lib.hid fun i hi => hgat i _ (Lx.beginV_at x s hi)
  have HB3 := Lib.hid (HB1.out.trans (hb3.mono HB1.out.size))
  clear hot hgat hb3 hve x0 x1 x2 HB1 HBG HSP hbl
  obtain ⟨arr0, hsz0, harr0, hmk⟩ := make_ints s.size (by omega)
  have hc0 := harr0 s.size (by omega)
  go_wp2_with fail
  obtain ⟨S0, hS0⟩ : ∃ S0, S0 = w3.heap.size := ⟨_, rfl⟩
  rw [← hS0]
  have HS0 := Lib.hid hS0
  have hgS : gt < S0 := by rw [hS0]; exact hgl
  rw [← hS0] at HAT
  have HSTART : Hid (∀ A B : Obj, ((w3.alloc A).alloc B).heap[S0]? = some A ∧ ((w3.alloc A).alloc B).heap[S0 + 1]? = some B ∧ Below S0 w3 ((w3.alloc A).alloc B) ∧ ((w3.alloc A).alloc B).heap.size = S0 + 2) := Lib.hid fun A B => by
    rw [hS0]
    exact ⟨start_fst _ _ _, start_res2 _ _ _, ((Below.refl _ _).alloc (Nat.le_refl _) _).alloc (by simp) _, by simp⟩
  clear hS0 hgl hmk hc0
  go_loopg [9] s.size (fun g i wr => ∃ (k : Nat) (p : Int), k ≤ s.size ∧ g = s.size - k ∧ p = (s.size : Int) - 1 - k ∧ i = .int .i64 p ∧ Below S0 w3 wr ∧ S0 + 2 ≤ wr.heap.size ∧
    wr.heap[S0]? = some (.cells #[.slice A0 x.entries.length c0, .slice A1 x.endings.length c1, .slice A2 x.clitics.length c2, .slice (some ⟨gt, 0, none⟩) s.size ct, .int .i64 s.size] 83 (0, 0)) ∧ RdN wr (S0 + 1) s.size (Lx.wayT (Lx.ats x s) s.size k))
  case atStart =>
    obtain ⟨q0, q1, q2, q3⟩ := HSTART.out (.cells #[.slice A0 x.entries.length c0, .slice A1 x.endings.length c1, .slice A2 x.clitics.length c2, .slice (some ⟨gt, 0, none⟩) s.size ct, .int .i64 s.size] 83) (.cells (arr0.setIfInBounds s.size (.int .i64 1)) 3)
    refine ⟨0, (s.size : Int) - 1, Nat.zero_le _, rfl, by omega, rfl, q2, Nat.le_of_eq q3.symm, q0, _, q1, by simp [hsz0], fun j hj => ?_⟩
    by_cases hjn : j = s.size
    · subst hjn
      rw [set_same (by omega)]
      simp [Lx.wayT]
    · rw [set_other hjn, harr0 j hj]
      simp [Lx.wayT, hjn]
  case round =>
    obtain ⟨k, p, hk, rfl, hp, rfl, hbel, hsz, hT0, hrn⟩ := hrel
    have HBEL := Lib.hid hbel
    have HT0 := Lib.hid hT0
    have HRN := Lib.hid hrn
    by_cases hp0 : 0 ≤ p
    · obtain ⟨i, hi⟩ : ∃ i : Nat, p = (i : Int) := ⟨p.toNat, by omega⟩
      subst hi
      have HK : Hid (i = s.size - (k + 1) ∧ k + 1 ≤ s.size) := Lib.hid ⟨by omega, by omega⟩
      have hin : i < s.size := by omega
      have hinI : (i : Int) < (s.size : Int) := by omega
      clear hp hp0
      obtain ⟨u, hu, hum⟩ := HAT.out i hin
      obtain ⟨Am, cm, rfl⟩ := hum.form
      obtain ⟨ms, hms⟩ : ∃ ms, ms = Lx.ats x s i := ⟨_, rfl⟩
      rw [← hms] at hu hum
      have HMS := Lib.hid hms
      have HUM := Lib.hid hum
      have u0 : wr.cell? ⟨gt, i, none⟩ = some (.slice Am ms.length cm) := (HBEL.out.cell (p := ⟨gt, i, none⟩) hgS).trans hu
      have t3 : wr.cell? ⟨S0, 3, none⟩ = some (.slice (some ⟨gt, 0, none⟩) s.size ct) := by simp [World.cell?, hT0]
      have hmsl : ms.length ≤ 9223372036854775807 := by obtain ⟨_, _, e, h1, h2, _⟩ := HUM.out; cases e; omega
      clear hbel hT0 hrn hms hum hu
      go_wp2_with fail
      clear u0 t3
      go_loopg [42] ms.length (fun g j wq => ∃ a : Nat, a ≤ ms.length ∧ g = ms.length - a ∧ j = .int .i64 a ∧ Below S0 w3 wq ∧ S0 + 2 ≤ wq.heap.size ∧
        wq.heap[S0]? = some (.cells #[.slice A0 x.entries.length c0, .slice A1 x.endings.length c1, .slice A2 x.clitics.length c2, .slice (some ⟨gt, 0, none⟩) s.size ct, .int .i64 s.size] 83 (0, 0)) ∧ RdN wq (S0 + 1) s.size (Lx.upd (Lx.wayT (Lx.ats x s) s.size k) i (Lx.waysTo (Lx.ats x s) s.size k a)))
      case atStart => exact ⟨0, Nat.zero_le _, rfl, rfl, HBEL.out, by omega, HT0.out, by have := Lx.wayT_start (ats := Lx.ats x s) HK.out.2; rw [← HK.out.1] at this; rw [this]; exact HRN.out⟩
      case round =>
        rename World => wq
        obtain ⟨a, ha, rfl, rfl, hbq, hsq, hTq, hrq⟩ := hrel
        have HBQ := Lib.hid hbq
        have HTQ := Lib.hid hTq
        have HRQ := Lib.hid hrq
        by_cases hlt : a < ms.length
        · obtain ⟨m, hma⟩ : ∃ m, ms[a]? = some m := ⟨_, List.getElem?_eq_getElem hlt⟩
          obtain ⟨bm, om, s2, rfl, hbm, q0, q1, q2, ⟨A', n', c', rfl⟩, q3⟩ := matches_cells HUM.out hma
          have y0 := (hbq.cell (p := ⟨bm, om + a * 4, none⟩) hbm).trans q0
          have y1 := (hbq.cell (p := ⟨bm, om + a * 4 + 1, none⟩) hbm).trans q1
          have y2 := (hbq.cell (p := ⟨bm, om + a * 4 + 2, none⟩) hbm).trans q2
          have y3 := (hbq.cell (p := ⟨bm, om + a * 4 + 3, none⟩) hbm).trans q3
          have HMA : Hid ((Lx.ats x s i)[a]? = some m) := Lib.hid (by rw [← HMS.out]; exact hma)
          have haI : (a : Int) < (ms.length : Int) := by omega
          have hfit := HFIT.out i m (List.mem_of_getElem? HMA.out)
          have hml1 := hfit.1
          have hml2 := hfit.2 (by omega)
          have hml2I : (i : Int) + (m.long : Int) ≤ (s.size : Int) := by omega
          obtain ⟨va, hva⟩ : ∃ va, va = Lx.waysTo (Lx.ats x s) s.size k a := ⟨_, rfl⟩
          obtain ⟨vb, hvb⟩ : ∃ vb, vb = Lx.wayT (Lx.ats x s) s.size k (i + m.long) := ⟨_, rfl⟩
          have hval : va ≤ 1099511627776 := by rw [hva]; exact Lx.waysTo_le _ _ _ _
          have hvbl : vb ≤ 1099511627776 := by rw [hvb]; exact Lx.wayT_le _ _
          have HN : Hid (Lx.waysTo (Lx.ats x s) s.size k (a + 1) = Lx.addTo va vb) := Lib.hid (by
            have e := HK.out.1
            have h := HMA.out
            rw [e] at h
            rw [Lx.waysTo_succ h, hva, hvb, e])
          rw [← hva] at HRQ
          clear hbq hTq hrq q0 q1 q2 q3 hma hfit
          go_upto_region 13 with fail
          obtain ⟨wm, hwm⟩ : ∃ wm, wm = wq.alloc (.cells #[.int .i64 m.entry, .int .i64 m.ending, .slice A' n' c', .int .i64 m.long] 87) := ⟨_, rfl⟩
          rw [← hwm]
          have hbm1 : Below wq.heap.size wq wm := by rw [hwm]; exact (Below.refl _ _).alloc (Nat.le_refl _) _
          have hwmb : wm.heap[wq.heap.size]? = some (.cells #[.int .i64 m.entry, .int .i64 m.ending, .slice A' n' c', .int .i64 m.long] 87 (0, 0)) := by rw [hwm]; exact heap_alloc_new _ _
          have hrm : RdN wm (S0 + 1) s.size (Lx.upd (Lx.wayT (Lx.ats x s) s.size k) i va) := HRQ.out.block (hbm1.block _ (by omega))
          have hsm := hbm1.size
          have HRM := Lib.hid hrm
          have HBM := Lib.hid (HBQ.out.trans (hbm1.mono (by omega)))
          have HTM := Lib.hid ((hbm1.block S0 (by omega)).trans HTQ.out)
          have HVA := Lib.hid hva
          have HVB := Lib.hid hvb
          have CG : Hid (∀ W : World, W.heap = wm.heap → W.cell? ⟨S0 + 1, i, none⟩ = some (.int .i64 (va : Int)) ∧ W.cell? ⟨S0 + 1, i + m.long, none⟩ = some (.int .i64 (vb : Int)) ∧ W.frozen? ⟨S0 + 1, i, none⟩ = false) := Lib.hid fun W hW => by
            refine ⟨(cell_heap hW _).trans ?_, (cell_heap hW _).trans ?_, (frozen_heap hW _).trans (hrm.frozen _)⟩
            · have := hrm.cell (j := i) (by omega)
              rwa [Lx.upd_at] at this
            · have := hrm.cell (j := i + m.long) (by omega)
              rwa [Lx.upd_ne _ _ (by omega), ← hvb] at this
          have CM : Hid (∀ W : World, (W.heap = wm.heap ∨ W.heap = (wm.setCell ⟨S0 + 1, i, none⟩ (.int .i64 ((Lx.addTo va vb : Nat) : Int))).heap) → W.cell? ⟨wq.heap.size, 3, none⟩ = some (.int .i64 m.long)) := Lib.hid fun W hW => by
            have h1 : ¬ S0 + 1 = wq.heap.size := by omega
            rcases hW with hW | hW
            · rw [cell_heap hW]; simp [World.cell?, hwmb]
            · unfold World.cell?; rw [hW]; simp [World.setCell, Array.getElem?_modify, h1, hwmb]
          clear hwm hbm1 hwmb hrm hva hvb y0 y1 y2 y3 hlt
          refine wp_region_inv2T (fun T0 => WyI T0 wm (S0 + 1) (S0 + 1) s.size i wq.heap.size m.long va vb) (by kernel_rfl) (by kernel_rfl) ?g0y ?gstepy ?gendy
          case g0y =>
            have hno : ∀ j, ¬ dn (Array.replicate 17 false) j := by
              intro j; unfold dn; by_cases hj : j < 17 <;> simp [Array.getD, hj]
            have na : ∀ {j : Nat} {Z : Prop}, dn (Array.replicate 17 false) j → Z := fun hj => absurd hj (hno _)
            exact ⟨_, rfl, { bel := (Below.refl _ _).drew, siz := rfl, kp := fun _ _ => rfl, k8 := rfl, k9 := rfl, k11 := rfl, p0 := na, p1 := na, p2 := na, p3 := na, p4 := na, p5 := na, p6 := na, p7 := na, p8 := na, p9 := na, p10 := na, p11 := na, p12 := na, p13 := na, p14 := na, p15 := na, l13 := fun hj => absurd hj (hno _), l14 := fun hj => absurd hj (hno _), l16 := fun hj => absurd hj (hno _), hp := fun _ => rfl, q16 := fun hj => absurd hj (hno _) }⟩
          case gstepy =>
            intro T0 d a wc i hd hI hi
            obtain ⟨hlt, hnd, hpre⟩ := mem_ready hi
            have hd' : d.size = 17 := hd
            have hin : i < 17 := hlt
            clear hi hd hlt
            obtain ⟨t, rfl, h⟩ := hI
            have hcs : i = 0 ∨ i = 1 ∨ i = 2 ∨ i = 3 ∨ i = 4 ∨ i = 5 ∨ i = 6 ∨ i = 7 ∨ i = 8 ∨ i = 9 ∨ i = 10 ∨ i = 11 ∨ i = 12 ∨ i = 13 ∨ i = 14 ∨ i = 15 ∨ i = 16 := by omega
            rcases hcs with rfl | rfl | rfl | rfl | rfl | rfl | rfl | rfl | rfl | rfl | rfl | rfl | rfl | rfl | rfl | rfl | rfl
            · have hi : 0 < d.size := by omega
              have q8 := h.k8
              refine wpOp_plain rfl rfl ?_
              go_simp
              exact ⟨_, rfl, { bel := h.bel, siz := (by simpa using h.siz), kp := rk h.kp, k8 := rs h.k8, k9 := rs h.k9, k11 := rs h.k11, l13 := fun hj => (fun q => ⟨dn_up q.1, dn_up q.2⟩) (h.l13 (dn_of hi hj (by decide))), l14 := fun hj => dn_up (h.l14 (dn_of hi hj (by decide))), l16 := fun hj => dn_up (h.l16 (dn_of hi hj (by decide))), hp := fun hk => h.hp (fun q => hk (dn_up q)), q16 := fun hj => h.q16 (dn_of hi hj (by decide)), p0 := fun _ => set_same (by have := h.siz; omega), p1 := rp hi h.p1, p2 := rp hi h.p2, p3 := rp hi h.p3, p4 := rp hi h.p4, p5 := rp hi h.p5, p6 := rp hi h.p6, p7 := rp hi h.p7, p8 := rp hi h.p8, p9 := rp hi h.p9, p10 := rp hi h.p10, p11 := rp hi h.p11, p12 := rp hi h.p12, p13 := rp hi h.p13, p14 := rp hi h.p14, p15 := rp hi h.p15 }⟩
            · have hi : 1 < d.size := by omega
              have q9 := h.k9
              refine wpOp_plain rfl rfl ?_
              go_simp
              exact ⟨_, rfl, { bel := h.bel, siz := (by simpa using h.siz), kp := rk h.kp, k8 := rs h.k8, k9 := rs h.k9, k11 := rs h.k11, l13 := fun hj => (fun q => ⟨dn_up q.1, dn_up q.2⟩) (h.l13 (dn_of hi hj (by decide))), l14 := fun hj => dn_up (h.l14 (dn_of hi hj (by decide))), l16 := fun hj => dn_up (h.l16 (dn_of hi hj (by decide))), hp := fun hk => h.hp (fun q => hk (dn_up q)), q16 := fun hj => h.q16 (dn_of hi hj (by decide)), p0 := rp hi h.p0, p1 := fun _ => set_same (by have := h.siz; omega), p2 := rp hi h.p2, p3 := rp hi h.p3, p4 := rp hi h.p4, p5 := rp hi h.p5, p6 := rp hi h.p6, p7 := rp hi h.p7, p8 := rp hi h.p8, p9 := rp hi h.p9, p10 := rp hi h.p10, p11 := rp hi h.p11, p12 := rp hi h.p12, p13 := rp hi h.p13, p14 := rp hi h.p14, p15 := rp hi h.p15 }⟩
            · have hi : 2 < d.size := by omega
              have q8 := h.k8
              refine wpOp_plain rfl rfl ?_
              go_simp
              exact ⟨_, rfl, { bel := h.bel, siz := (by simpa using h.siz), kp := rk h.kp, k8 := rs h.k8, k9 := rs h.k9, k11 := rs h.k11, l13 := fun hj => (fun q => ⟨dn_up q.1, dn_up q.2⟩) (h.l13 (dn_of hi hj (by decide))), l14 := fun hj => dn_up (h.l14 (dn_of hi hj (by decide))), l16 := fun hj => dn_up (h.l16 (dn_of hi hj (by decide))), hp := fun hk => h.hp (fun q => hk (dn_up q)), q16 := fun hj => h.q16 (dn_of hi hj (by decide)), p0 := rp hi h.p0, p1 := rp hi h.p1, p2 := fun _ => set_same (by have := h.siz; omega), p3 := rp hi h.p3, p4 := rp hi h.p4, p5 := rp hi h.p5, p6 := rp hi h.p6, p7 := rp hi h.p7, p8 := rp hi h.p8, p9 := rp hi h.p9, p10 := rp hi h.p10, p11 := rp hi h.p11, p12 := rp hi h.p12, p13 := rp hi h.p13, p14 := rp hi h.p14, p15 := rp hi h.p15 }⟩
            · have hi : 3 < d.size := by omega
              have q9 := h.k9
              refine wpOp_plain rfl rfl ?_
              go_simp
              exact ⟨_, rfl, { bel := h.bel, siz := (by simpa using h.siz), kp := rk h.kp, k8 := rs h.k8, k9 := rs h.k9, k11 := rs h.k11, l13 := fun hj => (fun q => ⟨dn_up q.1, dn_up q.2⟩) (h.l13 (dn_of hi hj (by decide))), l14 := fun hj => dn_up (h.l14 (dn_of hi hj (by decide))), l16 := fun hj => dn_up (h.l16 (dn_of hi hj (by decide))), hp := fun hk => h.hp (fun q => hk (dn_up q)), q16 := fun hj => h.q16 (dn_of hi hj (by decide)), p0 := rp hi h.p0, p1 := rp hi h.p1, p2 := rp hi h.p2, p3 := fun _ => set_same (by have := h.siz; omega), p4 := rp hi h.p4, p5 := rp hi h.p5, p6 := rp hi h.p6, p7 := rp hi h.p7, p8 := rp hi h.p8, p9 := rp hi h.p9, p10 := rp hi h.p10, p11 := rp hi h.p11, p12 := rp hi h.p12, p13 := rp hi h.p13, p14 := rp hi h.p14, p15 := rp hi h.p15 }⟩
            · have hi : 4 < d.size := by omega
              have e2 := h.p2 (hpre _ rfl ⟨2, .data⟩ (by simp) rfl)
              have e3 := h.p3 (hpre _ rfl ⟨3, .data⟩ (by simp) rfl)
              have hx1 : (i : Int) < (s.size : Int) + 1 := by omega
              refine wpOp_plain rfl rfl ?_
              go_simp
              exact ⟨_, rfl, { bel := h.bel, siz := (by simpa using h.siz), kp := rk h.kp, k8 := rs h.k8, k9 := rs h.k9, k11 := rs h.k11, l13 := fun hj => (fun q => ⟨dn_up q.1, dn_up q.2⟩) (h.l13 (dn_of hi hj (by decide))), l14 := fun hj => dn_up (h.l14 (dn_of hi hj (by decide))), l16 := fun hj => dn_up (h.l16 (dn_of hi hj (by decide))), hp := fun hk => h.hp (fun q => hk (dn_up q)), q16 := fun hj => h.q16 (dn_of hi hj (by decide)), p0 := rp hi h.p0, p1 := rp hi h.p1, p2 := rp hi h.p2, p3 := rp hi h.p3, p4 := fun _ => set_same (by have := h.siz; omega), p5 := rp hi h.p5, p6 := rp hi h.p6, p7 := rp hi h.p7, p8 := rp hi h.p8, p9 := rp hi h.p9, p10 := rp hi h.p10, p11 := rp hi h.p11, p12 := rp hi h.p12, p13 := rp hi h.p13, p14 := rp hi h.p14, p15 := rp hi h.p15 }⟩
            · have hi : 5 < d.size := by omega
              have e4 := h.p4 (hpre _ rfl ⟨4, .data⟩ (by simp) rfl)
              have hns : ¬ dn d 16 := fun q => not_dn hi hnd ((h.l13 (h.l14 (h.l16 q))).1)
              have hc0 := CG.out wc (h.hp hns)
              obtain ⟨ca, cb, cz⟩ := hc0
              refine wpOp_plain rfl rfl ?_
              go_simp
              exact ⟨_, rfl, { bel := h.bel, siz := (by simpa using h.siz), kp := rk h.kp, k8 := rs h.k8, k9 := rs h.k9, k11 := rs h.k11, l13 := fun hj => absurd (h.l13 (dn_of hi hj (by decide))).1 (not_dn hi hnd), l14 := fun hj => dn_up (h.l14 (dn_of hi hj (by decide))), l16 := fun hj => dn_up (h.l16 (dn_of hi hj (by decide))), hp := fun hk => h.hp (fun q => hk (dn_up q)), q16 := fun hj => h.q16 (dn_of hi hj (by decide)), p0 := rp hi h.p0, p1 := rp hi h.p1, p2 := rp hi h.p2, p3 := rp hi h.p3, p4 := rp hi h.p4, p5 := fun _ => set_same (by have := h.siz; omega), p6 := rp hi h.p6, p7 := rp hi h.p7, p8 := rp hi h.p8, p9 := rp hi h.p9, p10 := rp hi h.p10, p11 := rp hi h.p11, p12 := rp hi h.p12, p13 := rp hi h.p13, p14 := rp hi h.p14, p15 := rp hi h.p15 }⟩
            · have hi : 6 < d.size := by omega
              have q8 := h.k8
              refine wpOp_plain rfl rfl ?_
              go_simp
              exact ⟨_, rfl, { bel := h.bel, siz := (by simpa using h.siz), kp := rk h.kp, k8 := rs h.k8, k9 := rs h.k9, k11 := rs h.k11, l13 := fun hj => (fun q => ⟨dn_up q.1, dn_up q.2⟩) (h.l13 (dn_of hi hj (by decide))), l14 := fun hj => dn_up (h.l14 (dn_of hi hj (by decide))), l16 := fun hj => dn_up (h.l16 (dn_of hi hj (by decide))), hp := fun hk => h.hp (fun q => hk (dn_up q)), q16 := fun hj => h.q16 (dn_of hi hj (by decide)), p0 := rp hi h.p0, p1 := rp hi h.p1, p2 := rp hi h.p2, p3 := rp hi h.p3, p4 := rp hi h.p4, p5 := rp hi h.p5, p6 := fun _ => set_same (by have := h.siz; omega), p7 := rp hi h.p7, p8 := rp hi h.p8, p9 := rp hi h.p9, p10 := rp hi h.p10, p11 := rp hi h.p11, p12 := rp hi h.p12, p13 := rp hi h.p13, p14 := rp hi h.p14, p15 := rp hi h.p15 }⟩
            · have hi : 7 < d.size := by omega
              have q9 := h.k9
              refine wpOp_plain rfl rfl ?_
              go_simp
              exact ⟨_, rfl, { bel := h.bel, siz := (by simpa using h.siz), kp := rk h.kp, k8 := rs h.k8, k9 := rs h.k9, k11 := rs h.k11, l13 := fun hj => (fun q => ⟨dn_up q.1, dn_up q.2⟩) (h.l13 (dn_of hi hj (by decide))), l14 := fun hj => dn_up (h.l14 (dn_of hi hj (by decide))), l16 := fun hj => dn_up (h.l16 (dn_of hi hj (by decide))), hp := fun hk => h.hp (fun q => hk (dn_up q)), q16 := fun hj => h.q16 (dn_of hi hj (by decide)), p0 := rp hi h.p0, p1 := rp hi h.p1, p2 := rp hi h.p2, p3 := rp hi h.p3, p4 := rp hi h.p4, p5 := rp hi h.p5, p6 := rp hi h.p6, p7 := fun _ => set_same (by have := h.siz; omega), p8 := rp hi h.p8, p9 := rp hi h.p9, p10 := rp hi h.p10, p11 := rp hi h.p11, p12 := rp hi h.p12, p13 := rp hi h.p13, p14 := rp hi h.p14, p15 := rp hi h.p15 }⟩
            · have hi : 8 < d.size := by omega
              have q11 := h.k11
              refine wpOp_plain rfl rfl ?_
              go_simp
              exact ⟨_, rfl, { bel := h.bel, siz := (by simpa using h.siz), kp := rk h.kp, k8 := rs h.k8, k9 := rs h.k9, k11 := rs h.k11, l13 := fun hj => (fun q => ⟨dn_up q.1, dn_up q.2⟩) (h.l13 (dn_of hi hj (by decide))), l14 := fun hj => dn_up (h.l14 (dn_of hi hj (by decide))), l16 := fun hj => dn_up (h.l16 (dn_of hi hj (by decide))), hp := fun hk => h.hp (fun q => hk (dn_up q)), q16 := fun hj => h.q16 (dn_of hi hj (by decide)), p0 := rp hi h.p0, p1 := rp hi h.p1, p2 := rp hi h.p2, p3 := rp hi h.p3, p4 := rp hi h.p4, p5 := rp hi h.p5, p6 := rp hi h.p6, p7 := rp hi h.p7, p8 := fun _ => set_same (by have := h.siz; omega), p9 := rp hi h.p9, p10 := rp hi h.p10, p11 := rp hi h.p11, p12 := rp hi h.p12, p13 := rp hi h.p13, p14 := rp hi h.p14, p15 := rp hi h.p15 }⟩
            · have hi : 9 < d.size := by omega
              have e8 := h.p8 (hpre _ rfl ⟨8, .data⟩ (by simp) rfl)
              have hc0 := CM.out wc ((Classical.em (dn d 16)).elim (fun hs => .inr (h.q16 hs)) (fun hs => .inl (h.hp hs)))
              refine wpOp_plain rfl rfl ?_
              go_simp
              exact ⟨_, rfl, { bel := h.bel, siz := (by simpa using h.siz), kp := rk h.kp, k8 := rs h.k8, k9 := rs h.k9, k11 := rs h.k11, l13 := fun hj => (fun q => ⟨dn_up q.1, dn_up q.2⟩) (h.l13 (dn_of hi hj (by decide))), l14 := fun hj => dn_up (h.l14 (dn_of hi hj (by decide))), l16 := fun hj => dn_up (h.l16 (dn_of hi hj (by decide))), hp := fun hk => h.hp (fun q => hk (dn_up q)), q16 := fun hj => h.q16 (dn_of hi hj (by decide)), p0 := rp hi h.p0, p1 := rp hi h.p1, p2 := rp hi h.p2, p3 := rp hi h.p3, p4 := rp hi h.p4, p5 := rp hi h.p5, p6 := rp hi h.p6, p7 := rp hi h.p7, p8 := rp hi h.p8, p9 := fun _ => set_same (by have := h.siz; omega), p10 := rp hi h.p10, p11 := rp hi h.p11, p12 := rp hi h.p12, p13 := rp hi h.p13, p14 := rp hi h.p14, p15 := rp hi h.p15 }⟩
            · have hi : 10 < d.size := by omega
              have e7 := h.p7 (hpre _ rfl ⟨7, .data⟩ (by simp) rfl)
              have e9 := h.p9 (hpre _ rfl ⟨9, .data⟩ (by simp) rfl)
              refine wpOp_plain rfl rfl ?_
              go_simp
              simp (disch := omega) only [IntWalk.i64_in]
              exact ⟨_, rfl, { bel := h.bel, siz := (by simpa using h.siz), kp := rk h.kp, k8 := rs h.k8, k9 := rs h.k9, k11 := rs h.k11, l13 := fun hj => (fun q => ⟨dn_up q.1, dn_up q.2⟩) (h.l13 (dn_of hi hj (by decide))), l14 := fun hj => dn_up (h.l14 (dn_of hi hj (by decide))), l16 := fun hj => dn_up (h.l16 (dn_of hi hj (by decide))), hp := fun hk => h.hp (fun q => hk (dn_up q)), q16 := fun hj => h.q16 (dn_of hi hj (by decide)), p0 := rp hi h.p0, p1 := rp hi h.p1, p2 := rp hi h.p2, p3 := rp hi h.p3, p4 := rp hi h.p4, p5 := rp hi h.p5, p6 := rp hi h.p6, p7 := rp hi h.p7, p8 := rp hi h.p8, p9 := rp hi h.p9, p10 := fun _ => set_same (by have := h.siz; omega), p11 := rp hi h.p11, p12 := rp hi h.p12, p13 := rp hi h.p13, p14 := rp hi h.p14, p15 := rp hi h.p15 }⟩
            · have hi : 11 < d.size := by omega
              have e6 := h.p6 (hpre _ rfl ⟨6, .data⟩ (by simp) rfl)
              have e10 := h.p10 (hpre _ rfl ⟨10, .data⟩ (by simp) rfl)
              have hx1 : 0 ≤ (i : Int) + (m.long : Int) ∧ (i : Int) + (m.long : Int) < (s.size : Int) + 1 := by omega
              have hx3 : ((i : Int) + (m.long : Int)).toNat = i + m.long := by omega
              refine wpOp_plain rfl rfl ?_
              go_simp
              exact ⟨_, rfl, { bel := h.bel, siz := (by simpa using h.siz), kp := rk h.kp, k8 := rs h.k8, k9 := rs h.k9, k11 := rs h.k11, l13 := fun hj => (fun q => ⟨dn_up q.1, dn_up q.2⟩) (h.l13 (dn_of hi hj (by decide))), l14 := fun hj => dn_up (h.l14 (dn_of hi hj (by decide))), l16 := fun hj => dn_up (h.l16 (dn_of hi hj (by decide))), hp := fun hk => h.hp (fun q => hk (dn_up q)), q16 := fun hj => h.q16 (dn_of hi hj (by decide)), p0 := rp hi h.p0, p1 := rp hi h.p1, p2 := rp hi h.p2, p3 := rp hi h.p3, p4 := rp hi h.p4, p5 := rp hi h.p5, p6 := rp hi h.p6, p7 := rp hi h.p7, p8 := rp hi h.p8, p9 := rp hi h.p9, p10 := rp hi h.p10, p11 := fun _ => set_same (by have := h.siz; omega), p12 := rp hi h.p12, p13 := rp hi h.p13, p14 := rp hi h.p14, p15 := rp hi h.p15 }⟩
            · have hi : 12 < d.size := by omega
              have e11 := h.p11 (hpre _ rfl ⟨11, .data⟩ (by simp) rfl)
              have hns : ¬ dn d 16 := fun q => not_dn hi hnd ((h.l13 (h.l14 (h.l16 q))).2)
              have hc0 := CG.out wc (h.hp hns)
              obtain ⟨ca, cb, cz⟩ := hc0
              refine wpOp_plain rfl rfl ?_
              go_simp
              exact ⟨_, rfl, { bel := h.bel, siz := (by simpa using h.siz), kp := rk h.kp, k8 := rs h.k8, k9 := rs h.k9, k11 := rs h.k11, l13 := fun hj => absurd (h.l13 (dn_of hi hj (by decide))).2 (not_dn hi hnd), l14 := fun hj => dn_up (h.l14 (dn_of hi hj (by decide))), l16 := fun hj => dn_up (h.l16 (dn_of hi hj (by decide))), hp := fun hk => h.hp (fun q => hk (dn_up q)), q16 := fun hj => h.q16 (dn_of hi hj (by decide)), p0 := rp hi h.p0, p1 := rp hi h.p1, p2 := rp hi h.p2, p3 := rp hi h.p3, p4 := rp hi h.p4, p5 := rp hi h.p5, p6 := rp hi h.p6, p7 := rp hi h.p7, p8 := rp hi h.p8, p9 := rp hi h.p9, p10 := rp hi h.p10, p11 := rp hi h.p11, p12 := fun _ => set_same (by have := h.siz; omega), p13 := rp hi h.p13, p14 := rp hi h.p14, p15 := rp hi h.p15 }⟩
            · have hi : 13 < d.size := by omega
              have e5 := h.p5 (hpre _ rfl ⟨5, .data⟩ (by simp) rfl)
              have e12 := h.p12 (hpre _ rfl ⟨12, .data⟩ (by simp) rfl)
              refine wpOp_plain rfl rfl ?_
              go_simp
              simp (disch := omega) only [IntWalk.i64_in]
              exact ⟨_, rfl, { bel := h.bel, siz := (by simpa using h.siz), kp := rk h.kp, k8 := rs h.k8, k9 := rs h.k9, k11 := rs h.k11, l13 := fun _ => ⟨dn_up (hpre _ rfl ⟨5, .data⟩ (by simp) rfl), dn_up (hpre _ rfl ⟨12, .data⟩ (by simp) rfl)⟩, l14 := fun hj => absurd (h.l14 (dn_of hi hj (by decide))) (not_dn hi hnd), l16 := fun hj => dn_up (h.l16 (dn_of hi hj (by decide))), hp := fun hk => h.hp (fun q => hk (dn_up q)), q16 := fun hj => h.q16 (dn_of hi hj (by decide)), p0 := rp hi h.p0, p1 := rp hi h.p1, p2 := rp hi h.p2, p3 := rp hi h.p3, p4 := rp hi h.p4, p5 := rp hi h.p5, p6 := rp hi h.p6, p7 := rp hi h.p7, p8 := rp hi h.p8, p9 := rp hi h.p9, p10 := rp hi h.p10, p11 := rp hi h.p11, p12 := rp hi h.p12, p13 := fun _ => set_same (by have := h.siz; omega), p14 := rp hi h.p14, p15 := rp hi h.p15 }⟩
            · have hi : 14 < d.size := by omega
              have e13 := h.p13 (hpre _ rfl ⟨13, .data⟩ (by simp) rfl)
              refine wpOp_plain rfl rfl ?_
              go_simp
              rw [show min ((va : Int) + (vb : Int)) 1099511627776 = ((Lx.addTo va vb : Nat) : Int) by unfold Lx.addTo Lx.cnt; omega]
              exact ⟨_, rfl, { bel := h.bel, siz := (by simpa using h.siz), kp := rk h.kp, k8 := rs h.k8, k9 := rs h.k9, k11 := rs h.k11, l13 := fun hj => (fun q => ⟨dn_up q.1, dn_up q.2⟩) (h.l13 (dn_of hi hj (by decide))), l14 := fun _ => dn_up (hpre _ rfl ⟨13, .data⟩ (by simp) rfl), l16 := fun hj => absurd (h.l16 (dn_of hi hj (by decide))) (not_dn hi hnd), hp := fun hk => h.hp (fun q => hk (dn_up q)), q16 := fun hj => h.q16 (dn_of hi hj (by decide)), p0 := rp hi h.p0, p1 := rp hi h.p1, p2 := rp hi h.p2, p3 := rp hi h.p3, p4 := rp hi h.p4, p5 := rp hi h.p5, p6 := rp hi h.p6, p7 := rp hi h.p7, p8 := rp hi h.p8, p9 := rp hi h.p9, p10 := rp hi h.p10, p11 := rp hi h.p11, p12 := rp hi h.p12, p13 := rp hi h.p13, p14 := fun _ => set_same (by have := h.siz; omega), p15 := rp hi h.p15 }⟩
            · have hi : 15 < d.size := by omega
              have e0 := h.p0 (hpre _ rfl ⟨0, .data⟩ (by simp) rfl)
              have e1 := h.p1 (hpre _ rfl ⟨1, .data⟩ (by simp) rfl)
              have hx1 : (i : Int) < (s.size : Int) + 1 := by omega
              refine wpOp_plain rfl rfl ?_
              go_simp
              exact ⟨_, rfl, { bel := h.bel, siz := (by simpa using h.siz), kp := rk h.kp, k8 := rs h.k8, k9 := rs h.k9, k11 := rs h.k11, l13 := fun hj => (fun q => ⟨dn_up q.1, dn_up q.2⟩) (h.l13 (dn_of hi hj (by decide))), l14 := fun hj => dn_up (h.l14 (dn_of hi hj (by decide))), l16 := fun hj => dn_up (h.l16 (dn_of hi hj (by decide))), hp := fun hk => h.hp (fun q => hk (dn_up q)), q16 := fun hj => h.q16 (dn_of hi hj (by decide)), p0 := rp hi h.p0, p1 := rp hi h.p1, p2 := rp hi h.p2, p3 := rp hi h.p3, p4 := rp hi h.p4, p5 := rp hi h.p5, p6 := rp hi h.p6, p7 := rp hi h.p7, p8 := rp hi h.p8, p9 := rp hi h.p9, p10 := rp hi h.p10, p11 := rp hi h.p11, p12 := rp hi h.p12, p13 := rp hi h.p13, p14 := rp hi h.p14, p15 := fun _ => set_same (by have := h.siz; omega) }⟩
            · have hi : 16 < d.size := by omega
              have d1 : dn d 15 := hpre _ rfl ⟨15, .data⟩ (by simp) rfl
              have d2 : dn d 14 := hpre _ rfl ⟨14, .data⟩ (by simp) rfl
              have e1 := h.p15 d1
              have e2 := h.p14 d2
              have hs0 := h.hp (not_dn hi hnd)
              obtain ⟨ca, cb, cz⟩ := CG.out wc hs0
              refine wpOp_plain rfl rfl ?_
              go_simp
              exact ⟨_, rfl, { bel := h.bel.setCell (Nat.le_refl _) _, siz := h.siz, kp := h.kp, k8 := h.k8, k9 := h.k9, k11 := h.k11, l13 := fun hj => (fun q => ⟨dn_up q.1, dn_up q.2⟩) (h.l13 (dn_of hi hj (by decide))), l14 := fun hj => dn_up (h.l14 (dn_of hi hj (by decide))), l16 := fun _ => dn_up d2, hp := fun hk => absurd (dn_self hi) hk, q16 := fun _ => by simp [World.setCell, hs0], p0 := rn hi h.p0, p1 := rn hi h.p1, p2 := rn hi h.p2, p3 := rn hi h.p3, p4 := rn hi h.p4, p5 := rn hi h.p5, p6 := rn hi h.p6, p7 := rn hi h.p7, p8 := rn hi h.p8, p9 := rn hi h.p9, p10 := rn hi h.p10, p11 := rn hi h.p11, p12 := rn hi h.p12, p13 := rn hi h.p13, p14 := rn hi h.p14, p15 := rn hi h.p15 }⟩
          case gendy =>
            intro d a wc hd hI hall
            obtain ⟨t, rfl, h⟩ := hI
            have hdn : ∀ j, j < 17 → dn d j := fun j hj => dn_all hd hall hj
            have hd : ∀ j, (_ : j < 17 := by decide) → dn d j := fun j hj => hdn j hj
            have hq := h.q16 (hdn 16 (by omega))
            have hfe := frame_eq [(46, _), (47, _), (48, _), (49, _), (50, _), (51, _), (52, _), (53, _), (54, _), (55, _), (56, _), (57, _), (58, _), (59, _), (60, _), (61, _)] (h.siz.trans rfl) h.kp rfl ⟨h.p0 (hd 0), h.p1 (hd 1), h.p2 (hd 2), h.p3 (hd 3), h.p4 (hd 4), h.p5 (hd 5), h.p6 (hd 6), h.p7 (hd 7), h.p8 (hd 8), h.p9 (hd 9), h.p10 (hd 10), h.p11 (hd 11), h.p12 (hd 12), h.p13 (hd 13), h.p14 (hd 14), h.p15 (hd 15), trivial⟩
            simp only [List.foldl_cons, List.foldl_nil, List.setIfInBounds_toArray, List.set_cons_succ, List.set_cons_zero] at hfe
            have hbc := h.bel
            subst hfe
            clear h hdn hd hall
            have hbc1 := hbc
            have HBC := Lib.hid (HBM.out.trans (hbc.mono (by omega)))
            have HRC : Hid (RdN wc (S0 + 1) s.size (Lx.upd (Lx.wayT (Lx.ats x s) s.size k) i (Lx.waysTo (Lx.ats x s) s.size k (a + 1)))) := Lib.hid (by
              have := HRM.out.set (v := Lx.addTo va vb) (by omega) hq
              rw [HN.out]
              rwa [Lx.upd_upd] at this)
            have HTC := Lib.hid ((hbc.block S0 (by omega)).trans HTM.out)
            have hsc := hbc.size
            clear hbc hbc1 hq
            go_wp2_with fail
            go_roundg (ms.length - (a + 1))
            case measure => omega
            case rel => exact ⟨a + 1, by omega, rfl, by go_num, HBC.out, by omega, HTC.out, HRC.out⟩
        · have HE : Hid (RdN wq (S0 + 1) s.size (Lx.wayT (Lx.ats x s) s.size (k + 1))) := Lib.hid (by
            have := Lx.wayT_end (ats := Lx.ats x s) (n := s.size) (k := k) (a := a) (by rw [← HK.out.1, ← HMS.out]; omega)
            rw [← HK.out.1] at this
            rw [← this]; exact HRQ.out)
          clear hbq hTq hrq
          go_wp2_with fail
          go_roundg (s.size - (k + 1))
          case measure => have := HK.out; omega
          case rel => exact ⟨k + 1, (i : Int) - 1, HK.out.2, rfl, by have := HK.out; omega, rfl, HBQ.out, hsq, HTQ.out, HE.out⟩
    · have hks : k = s.size := by omega
      have r0 : wr.cell? ⟨S0 + 1, 0, none⟩ = some (.int .i64 (Lx.wayT (Lx.ats x s) s.size s.size 0 : Nat)) := by rw [hks] at hrn; exact hrn.cell (Nat.zero_le _)
      clear hbel hT0 hrn
      go_wp2_with fail
      go_ret2
      exact ⟨rfl, HB3.out.trans (HBEL.out.mono (by rw [HS0.out]; exact HB3.out.size))⟩
end Go.Proofs.YtpmnpnlfgfleeaaGreatDoor
