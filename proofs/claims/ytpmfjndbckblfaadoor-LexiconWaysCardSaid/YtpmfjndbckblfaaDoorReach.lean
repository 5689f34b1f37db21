/- lexicon.Reach. Made by gen_reach.py. -/
import Derived.Test.YtpmfjndbckblfaaDoorWays
namespace Go.Proofs.YtpmfjndbckblfaaDoor
open Go.RowKit

theorem info_bool : (Tryd.prog.info? 4).map (fun i => (i.zero, i.size, i.bytes)) = some (some (.bool false), 1, 1) := by kernel_rfl
theorem make_bools (n : Nat) (hn : n ≤ 1000) : ∃ arr0 : Array Value, arr0.size = n + 1 ∧ (∀ j, j ≤ n → arr0[j]? = some (.bool false)) ∧
    ∀ W : World, (Instr.makeSlice 108 (.int .i64 ((n : Int) + 1)) (.int .i64 ((n : Int) + 1))).run Tryd.prog W = .ok (.slice (some ⟨W.heap.size, 0, none⟩) (n + 1) (n + 1)) (W.alloc (.cells arr0 4)) := by
  obtain ⟨i0, hi0, hz0, hs0, hb0⟩ := info_parts info_bool
  refine ⟨madeCells #[.bool false] (n + 1), size_madeCells _ _, fun j hj => ?_, fun W => ?_⟩
  · rw [← Array.getElem?_toList, toList_madeCells_one]
    rw [List.getElem?_replicate_of_lt (by omega)]
  · have := run_make (P := Tryd.prog) W 108 4 i0 _ Tryd.underlying108 hi0 hz0 .i64 .i64 ((n : Int) + 1) ((n : Int) + 1) (by omega) (by omega) (by rw [hb0]; omega) (by omega)
    rw [this, hs0, show ((n : Int) + 1).toNat = n + 1 by omega, Nat.mul_one]
    rfl
/-- a row of flags -/
def RdBl (w : World) (g n : Nat) (T : Nat → Bool) : Prop := ∃ arr : Array Value, w.heap[g]? = some (.cells arr 4 (0, 0)) ∧ arr.size = n + 1 ∧ ∀ j, j ≤ n → arr[j]? = some (.bool (T j))
theorem RdBl.cell {w : World} {g n : Nat} {T : Nat → Bool} (h : RdBl w g n T) {j : Nat} (hj : j ≤ n) : w.cell? ⟨g, j, none⟩ = some (.bool (T j)) := by
  obtain ⟨arr, h1, _, h3⟩ := h
  simp [World.cell?, h1, h3 j hj]
theorem RdBl.frozen {w : World} {g n : Nat} {T : Nat → Bool} (h : RdBl w g n T) (j : Nat) : w.frozen? ⟨g, j, none⟩ = false := by
  obtain ⟨arr, h1, _, _⟩ := h
  simp [World.frozen?, h1]
theorem RdBl.block {w w' : World} {g n : Nat} {T : Nat → Bool} (h : RdBl w g n T) (hb : w'.heap[g]? = w.heap[g]?) : RdBl w' g n T := by
  obtain ⟨arr, h1, h2⟩ := h
  exact ⟨arr, hb.trans h1, h2⟩
theorem RdBl.set {w : World} {g n : Nat} {T : Nat → Bool} {i : Nat} (h : RdBl w g n T) (hi : i ≤ n) : RdBl (w.setCell ⟨g, i, none⟩ (.bool true)) g n (fun j => T j || decide (i = j)) := by
  obtain ⟨arr, h1, h2, h3⟩ := h
  refine ⟨arr.setIfInBounds i (.bool true), by simp [World.setCell, Array.getElem?_modify, h1], by simpa using h2, fun j hj => ?_⟩
  by_cases hji : i = j
  · subst hji
    rw [set_same (by omega)]
    simp
  · rw [set_other (fun e => hji e.symm), h3 j hj]
    simp [hji]
theorem RdBl.cong {w : World} {g n : Nat} {T T' : Nat → Bool} (h : RdBl w g n T) (he : ∀ j, T j = T' j) : RdBl w g n T' := by
  have : T = T' := funext he
  rwa [← this]

set_option maxRecDepth 100000 in
set_option maxHeartbeats 4000000 in
theorem Reach_bad (x : Lx.Lexicon) (s : ByteArray) (vx : Value) (w : World) (hr : RdL w w.heap.size vx x) (hs : s.size ≤ 1000) (hz : Lx.speechV x s ≠ 0) :
    Calls Tryd.prog 32 #[vx, .string s] w (RetNN 0 (Lx.speechV x s) w) := by
  have HSP : Hid (∀ (W : World), Below w.heap.size w W → Calls Tryd.prog 64 #[vx, .string s] W (RetIB (Lx.speechV x s) W)) := Lib.hid fun W hW => speech_any vx x s W ((hr.below hW).more hW.size) (by simp only [maxLen]; omega)
  obtain ⟨⟨v0, v1, v2, rfl, ⟨A0, c0, rfl, -⟩, ⟨A1, c1, rfl, -⟩, ⟨A2, c2, rfl, -⟩⟩, -, -, -⟩ := hr
  generalize Lx.speechV x s = cv at *
  have hq : (cv == 0) = false := by simp [hz]
  have hq' : (cv != 0) = true := by simp [hz]
  clear hz
  go_enter Tryd.func32, Tryd.ntmps32
  go_wp2_with fail
  refine (HSP.out _ ((Below.refl _ _).alloc (Nat.le_refl _) _)).mono ?_
  rintro e1 w1 ⟨rfl, hb1⟩
  have HB1 := Lib.hid (((Below.refl w.heap.size w).alloc (Nat.le_refl _) (.cells #[.slice A0 x.entries.length c0, .slice A1 x.endings.length c1, .slice A2 x.clitics.length c2] 26)).trans (hb1.mono (by simp)))
  clear hb1
  go_wp2_with fail
  go_ret2
  exact ⟨rfl, HB1.out⟩

set_option maxRecDepth 100000 in
set_option maxHeartbeats 8000000 in
theorem Reach_good (x : Lx.Lexicon) (s : ByteArray) (vx : Value) (w : World) (hr : RdL w w.heap.size vx x) (hz : Lx.speechV x s = 0) :
    Calls Tryd.prog 32 #[vx, .string s] w (RetNN ((Lx.farT (Lx.reachT (Lx.ats x s) s.size) s.size : Nat)) 0 w) := by
  obtain ⟨hchk, hsb⟩ := Lx.speech_parts hz
  obtain ⟨hs1, hs2, hal⟩ := Lx.sounds_size hsb
  have HSP : Hid (∀ (W : World), Below w.heap.size w W → Calls Tryd.prog 64 #[vx, .string s] W (RetIB (Lx.speechV x s) W)) := Lib.hid fun W hW => speech_any vx x s W ((hr.below hW).more hW.size) (by simp only [maxLen]; omega)
  have HBG : Hid (∀ (W : World), Below w.heap.size w W → Calls Tryd.prog 65 #[vx, .string s] W (fun e w' => ∃ a0 a1 a2 v, vx = .agg #[a0, a1, a2] ∧ e = .returned (.agg #[a0, a1, a2, v, .int .i64 s.size]) ∧ OwnT w' W.heap.size v (Lx.beginV x s) ∧ Below W.heap.size W w')) :=
    Lib.hid fun W hW => begin_any x s hchk hs2 hal vx W ((hr.below hW).more hW.size)
  have HZ := Lib.hid hz
  have HFIT : Hid (∀ i m, m ∈ Lx.ats x s i → 1 ≤ m.long ∧ (i ≤ s.size → i + m.long ≤ s.size)) := Lib.hid fun i m hm => by
    have h := Lx.matchesV_fits hchk m hm
    have h2 := h.le
    rw [ByteArray.size_extract] at h2
    exact ⟨h.pos, fun _ => by omega⟩
  obtain ⟨⟨v0, v1, v2, rfl, ⟨A0, c0, rfl, -⟩, ⟨A1, c1, rfl, -⟩, ⟨A2, c2, rfl, -⟩⟩, -, -, -⟩ := hr
  have hs64 : s.size ≤ 9223372036854775807 := by omega
  clear hz hchk hsb hal
  go_enter Tryd.func32, Tryd.ntmps32
  go_wp2_with fail
  refine (HSP.out _ ((Below.refl _ _).alloc (Nat.le_refl _) _)).mono ?_
  rw [HZ.out]
  rintro e1 w1 ⟨rfl, hb1⟩
  have hX1 : w1.heap[w.heap.size]? = some (.cells #[.slice A0 x.entries.length c0, .slice A1 x.endings.length c1, .slice A2 x.clitics.length c2] 26 (0, 0)) := (hb1.block _ (by simp)).trans (heap_alloc_new _ _)
  have x0 : w1.cell? ⟨w.heap.size, 0, none⟩ = some (.slice A0 x.entries.length c0) := by simp [World.cell?, hX1]
  have x1 : w1.cell? ⟨w.heap.size, 1, none⟩ = some (.slice A1 x.endings.length c1) := by simp [World.cell?, hX1]
  have x2 : w1.cell? ⟨w.heap.size, 2, none⟩ = some (.slice A2 x.clitics.length c2) := by simp [World.cell?, hX1]
  have HB1 := Lib.hid (((Below.refl w.heap.size w).alloc (Nat.le_refl _) (.cells #[.slice A0 x.entries.length c0, .slice A1 x.endings.length c1, .slice A2 x.clitics.length c2] 26)).trans (hb1.mono (by simp)))
  clear hb1 hX1
  go_wp2_with fail
  refine (HBG.out _ HB1.out).mono ?_
  rintro e3 w3 ⟨a0, a1, a2, vt, hve, rfl, hot, hb3⟩
  obtain ⟨rfl, rfl, rfl⟩ : Value.slice A0 x.entries.length c0 = a0 ∧ Value.slice A1 x.endings.length c1 = a1 ∧ Value.slice A2 x.clitics.length c2 = a2 := by simpa using hve
  have hbl : (Lx.beginV x s).length = s.size := Lx.beginTo_len _ _ _
  obtain ⟨gt, ct, rfl, hgl, hgat⟩ := ownT_at hot (by omega)
  rw [hbl]
  have HAT : Hid (∀ i, i < s.size → ∃ u, w3.cell? ⟨gt, i, none⟩ = some u ∧ RdMs w3 (fun b => b < w3.heap.size) u (Lx.ats x s i)) := Lib.hid fun i hi => hgat i _ (Lx.beginV_at x s hi)
  have HB3 := Lib.hid (HB1.out.trans (hb3.mono HB1.out.size))
  clear hot hgat hb3 hve x0 x1 x2 HB1 HBG HSP hbl
  obtain ⟨arr0, hsz0, harr0, hmk⟩ := make_bools s.size (by omega)
  have hc0 := harr0 0 (by omega)
  go_wp2_with fail
  obtain ⟨S0, hS0⟩ : ∃ S0, S0 = w3.heap.size := ⟨_, rfl⟩
  rw [← hS0]
  have HS0 := Lib.hid hS0
  have hgS : gt < S0 := by rw [hS0]; exact hgl
  rw [← hS0] at HAT
  have HSTART : Hid (∀ A B : Obj, ((w3.alloc A).alloc B).heap[S0]? = some A ∧ ((w3.alloc A).alloc B).heap[S0 + 1]? = some B ∧ Below S0 w3 ((w3.alloc A).alloc B) ∧ ((w3.alloc A).alloc B).heap.size = S0 + 2) := Lib.hid fun A B => by
    rw [hS0]
    exact ⟨start_fst _ _ _, start_res2 _ _ _, ((Below.refl _ _).alloc (Nat.le_refl _) _).alloc (by simp) _, by simp⟩
  clear hS0 hgl hmk hc0
  go_loopg [32] s.size (fun g v wr => ∃ i : Nat, i ≤ s.size ∧ g = s.size - i ∧ v = .int .i64 i ∧ Below S0 w3 wr ∧ S0 + 2 ≤ wr.heap.size ∧
    wr.heap[S0]? = some (.cells #[.slice A0 x.entries.length c0, .slice A1 x.endings.length c1, .slice A2 x.clitics.length c2, .slice (some ⟨gt, 0, none⟩) s.size ct, .int .i64 s.size] 90 (0, 0)) ∧ RdBl wr (S0 + 1) s.size (Lx.reachT (Lx.ats x s) i))
  case atStart =>
    obtain ⟨q0, q1, q2, q3⟩ := HSTART.out (.cells #[.slice A0 x.entries.length c0, .slice A1 x.endings.length c1, .slice A2 x.clitics.length c2, .slice (some ⟨gt, 0, none⟩) s.size ct, .int .i64 s.size] 90) (.cells (arr0.setIfInBounds 0 (.bool true)) 4)
    refine ⟨0, Nat.zero_le _, rfl, rfl, q2, Nat.le_of_eq q3.symm, q0, _, q1, by simp [hsz0], fun j hj => ?_⟩
    by_cases hjn : j = 0
    · subst hjn
      rw [set_same (by omega)]
      simp [Lx.reachT]
    · rw [set_other hjn, harr0 j hj]
      simp [Lx.reachT, hjn]
  case round =>
    obtain ⟨i, hi, rfl, rfl, hbel, hsz, hT0, hrn⟩ := hrel
    have HBEL := Lib.hid hbel
    have HT0 := Lib.hid hT0
    have HRN := Lib.hid hrn
    by_cases hin : i < s.size
    · have hinI : (i : Int) < (s.size : Int) := by omega
      obtain ⟨u, hu, hum⟩ := HAT.out i hin
      obtain ⟨Am, cm, rfl⟩ := hum.form
      obtain ⟨ms, hms⟩ : ∃ ms, ms = Lx.ats x s i := ⟨_, rfl⟩
      rw [← hms] at hu hum
      have HMS := Lib.hid hms
      have HUM := Lib.hid hum
      have u0 : wr.cell? ⟨gt, i, none⟩ = some (.slice Am ms.length cm) := (HBEL.out.cell (p := ⟨gt, i, none⟩) hgS).trans hu
      have hmsl : ms.length ≤ 9223372036854775807 := by obtain ⟨_, _, e, h1, h2, _⟩ := HUM.out; cases e; omega
      clear hbel hT0 hrn hms hum hu
      go_wp2_with fail
      clear u0
      go_loopg [39] ms.length (fun g j wq => ∃ a : Nat, a ≤ ms.length ∧ g = ms.length - a ∧ j = .int .i64 a ∧ Below S0 w3 wq ∧ S0 + 2 ≤ wq.heap.size ∧
        wq.heap[S0]? = some (.cells #[.slice A0 x.entries.length c0, .slice A1 x.endings.length c1, .slice A2 x.clitics.length c2, .slice (some ⟨gt, 0, none⟩) s.size ct, .int .i64 s.size] 90 (0, 0)) ∧ RdBl wq (S0 + 1) s.size (Lx.reachTo (Lx.ats x s) i a))
      case atStart => exact ⟨0, Nat.zero_le _, rfl, rfl, HBEL.out, by omega, HT0.out, by rw [Lx.reachTo_zero]; exact HRN.out⟩
      case round =>
        rename World => wq
        obtain ⟨a, ha, rfl, rfl, hbq, hsq, hTq, hrq⟩ := hrel
        have HBQ := Lib.hid hbq
        have HTQ := Lib.hid hTq
        have HRQ := Lib.hid hrq
        by_cases hlt : a < ms.length
        · obtain ⟨m, hma⟩ : ∃ m, ms[a]? = some m := ⟨_, List.getElem?_eq_getElem hlt⟩
          obtain ⟨bm, om, s2, rfl, hbm, q0, q1, q2, ⟨A', n', c', rfl⟩, q3⟩ := matches_cells HUM.out hma
          have y0 := (hbq.cell (p := ⟨bm, om + a * 4, none⟩) hbm).trans q0
          have y1 := (hbq.cell (p := ⟨bm, om + a * 4 + 1, none⟩) hbm).trans q1
          have y2 := (hbq.cell (p := ⟨bm, om + a * 4 + 2, none⟩) hbm).trans q2
          have y3 := (hbq.cell (p := ⟨bm, om + a * 4 + 3, none⟩) hbm).trans q3
          have HMA : Hid ((Lx.ats x s i)[a]? = some m) := Lib.hid (by rw [← HMS.out]; exact hma)
          have haI : (a : Int) < (ms.length : Int) := by omega
          have hfit := HFIT.out i m (List.mem_of_getElem? HMA.out)
          have hml1 := hfit.1
          have hml2 := hfit.2 (by omega)
          have hml2I : (i : Int) + (m.long : Int) ≤ (s.size : Int) := by omega
          have HSELF : Hid (Lx.reachTo (Lx.ats x s) i a i = Lx.reachT (Lx.ats x s) i i) := Lib.hid (Lx.reachTo_self fun m hm => (HFIT.out i m hm).1)
          obtain ⟨wm, hwm⟩ : ∃ wm, wm = wq.alloc (.cells #[.int .i64 m.entry, .int .i64 m.ending, .slice A' n' c', .int .i64 m.long] 99) := ⟨_, rfl⟩
          have hbm1 : Below wq.heap.size wq wm := by rw [hwm]; exact (Below.refl _ _).alloc (Nat.le_refl _) _
          have hwmb : wm.heap[wq.heap.size]? = some (.cells #[.int .i64 m.entry, .int .i64 m.ending, .slice A' n' c', .int .i64 m.long] 99 (0, 0)) := by rw [hwm]; exact heap_alloc_new _ _
          have hrm : RdBl wm (S0 + 1) s.size (Lx.reachTo (Lx.ats x s) i a) := HRQ.out.block (hbm1.block _ (by omega))
          have hsm := hbm1.size
          have HRM := Lib.hid hrm
          have HBM := Lib.hid (HBQ.out.trans (hbm1.mono (by omega)))
          have HTM := Lib.hid ((hbm1.block S0 (by omega)).trans HTQ.out)
          have z3 : wm.cell? ⟨wq.heap.size, 3, none⟩ = some (.int .i64 m.long) := by simp [World.cell?, hwmb]
          have zf : wm.frozen? ⟨S0 + 1, i + m.long, none⟩ = false := hrm.frozen _
          have zc := hrm.cell (j := i + m.long) hml2
          have z0 : wm.cell? ⟨S0 + 1, i, none⟩ = some (.bool (Lx.reachT (Lx.ats x s) i i)) := by have := hrm.cell (j := i) (by omega); rwa [HSELF.out] at this
          have HWM := Lib.hid hwm
          clear hbq hTq hrq q0 q1 q2 q3 hma hfit hwm hbm1 hwmb hrm
          go_upto_region 13 with fail
          rw [← HWM.out]
          cases hti : Lx.reachT (Lx.ats x s) i i
          · have HN : Hid (∀ j, Lx.reachTo (Lx.ats x s) i a j = Lx.reachTo (Lx.ats x s) i (a + 1) j) := Lib.hid fun j => by rw [Lx.reachTo_succ HMA.out, hti]; simp
            rw [hti] at z0
            clear hti zc
            go_wp2_with fail
            go_roundg (ms.length - (a + 1))
            case measure => omega
            case rel => exact ⟨a + 1, by omega, rfl, by go_num, HBM.out, by omega, HTM.out, HRM.out.cong HN.out⟩
          · have HN : Hid (∀ j, (Lx.reachTo (Lx.ats x s) i a j || decide (i + m.long = j)) = Lx.reachTo (Lx.ats x s) i (a + 1) j) := Lib.hid fun j => by rw [Lx.reachTo_succ HMA.out, hti]; simp
            rw [hti] at z0
            have HB9 : Hid (Below S0 w3 (wm.setCell ⟨S0 + 1, i + m.long, none⟩ (.bool true))) := Lib.hid (HBM.out.setCell (by simp) _)
            have HT9 : Hid ((wm.setCell ⟨S0 + 1, i + m.long, none⟩ (.bool true)).heap[S0]? = some (.cells #[.slice A0 x.entries.length c0, .slice A1 x.endings.length c1, .slice A2 x.clitics.length c2, .slice (some ⟨gt, 0, none⟩) s.size ct, .int .i64 s.size] 90 (0, 0))) := Lib.hid (by
              have h1 : ¬ S0 + 1 = S0 := by omega
              have := HTM.out
              simpa [World.setCell, Array.getElem?_modify, h1] using this)
            have HR9 := Lib.hid ((HRM.out.set hml2).cong HN.out)
            clear hti
            go_wp2_with fail
            go_roundg (ms.length - (a + 1))
            case measure => omega
            case rel => exact ⟨a + 1, by omega, rfl, by go_num, HB9.out, by simp [World.setCell]; omega, HT9.out, HR9.out⟩
        · have HE : Hid (RdBl wq (S0 + 1) s.size (Lx.reachT (Lx.ats x s) (i + 1))) := Lib.hid (by
            have := Lx.reachTo_end (ats := Lx.ats x s) (i := i) (a := a) (by rw [← HMS.out]; omega)
            rw [← this]; exact HRQ.out)
          clear hbq hTq hrq
          go_wp2_with fail
          go_roundg (s.size - (i + 1))
          case measure => omega
          case rel => exact ⟨i + 1, by omega, rfl, by go_num, HBQ.out, hsq, HTQ.out, HE.out⟩
    · have hin' : i = s.size := by omega
      rw [hin'] at HRN
      have t4 : wr.cell? ⟨S0, 4, none⟩ = some (.int .i64 s.size) := by simp [World.cell?, hT0]
      clear hbel hT0 hrn
      go_wp2_with fail
      go_loopg [13] s.size (fun g v wz => ∃ p : Nat, p ≤ s.size ∧ g = p ∧ v = .int .i64 p ∧ Below S0 w3 wz ∧ RdBl wz (S0 + 1) s.size (Lx.reachT (Lx.ats x s) s.size) ∧ ∀ j, p < j → j ≤ s.size → Lx.reachT (Lx.ats x s) s.size j = false)
      case atStart => exact ⟨s.size, Nat.le_refl _, rfl, rfl, HBEL.out, HRN.out, fun j h1 h2 => by omega⟩
      case round =>
        rename World => wz
        obtain ⟨p, hp, hgp, rfl, hbz, hrz, hno⟩ := hrel
        have HGP := Lib.hid hgp
        clear hgp
        have HBZ := Lib.hid hbz
        have HRZ := Lib.hid hrz
        have HNO := Lib.hid hno
        have y0 := hrz.cell hp
        clear hbz hrz hno t4
        have hpI : (p : Int) ≤ (s.size : Int) := by omega
        cases htp : Lx.reachT (Lx.ats x s) s.size p
        · have hp1 : 1 ≤ p := by
            rcases Nat.eq_zero_or_pos p with e | e
            · subst e; rw [Lx.reachT_zero] at htp; cases htp
            · exact e
          have HN : Hid (∀ j, p - 1 < j → j ≤ s.size → Lx.reachT (Lx.ats x s) s.size j = false) := Lib.hid fun j h1 h2 => by
            rcases Nat.lt_or_ge p j with q | q
            · exact HNO.out j q h2
            · rw [show j = p by omega]; exact htp
          rw [htp] at y0
          clear htp
          go_wp2_with fail
          go_roundg (p - 1)
          case measure => have := HGP.out; omega
          case rel => exact ⟨p - 1, by omega, rfl, by go_num, HBZ.out, HRZ.out, HN.out⟩
        · have HF : Hid (Lx.farT (Lx.reachT (Lx.ats x s) s.size) s.size = p) := Lib.hid (Lx.farT_at hp htp HNO.out)
          rw [htp] at y0
          clear htp
          go_wp2_with fail
          go_ret2
          exact ⟨ret_nn (by rw [HF.out]) rfl, HB3.out.trans (HBZ.out.mono (by rw [HS0.out]; exact HB3.out.size))⟩
end Go.Proofs.YtpmfjndbckblfaaDoor
