/- lexicon.Reach. Made by gen_reach.py. Ways and Reach of the program: all answers. What holds of the cuts. The cuts of a line: how many, what they say and weigh, no two alike: plain law. The cuts of a line: what the law of the cuts asks. -/
import Derived.Test.YtpmfjndbckblfaaDoorMgWays
import Derived.Test.YtpmfjndbckblfaaDoorMgCutsLaw
import Derived.Test.YtpmfjndbckblfaaDoorMgWithFits
import Derived.Test.YtpmfjndbckblfaaDoorMgSounds
import Derived.Test.YtpmfjndbckblfaaDoorMgRankProg
import Derived.Test.YtpmfjndbckblfaaDoorMgRegion4
namespace Go.Proofs.YtpmfjndbckblfaaDoor
open Go.RowKit

theorem info_bool : (Tryd.prog.info? 4).map (fun i => (i.zero, i.size, i.bytes)) = some (some (.bool false), 1, 1) := by kernel_rfl
theorem make_bools (n : Nat) (hn : n ≤ 1000) : ∃ arr0 : Array Value, arr0.size = n + 1 ∧ (∀ j, j ≤ n → arr0[j]? = some (.bool false)) ∧
    ∀ W : World, (Instr.makeSlice 108 (.int .i64 ((n : Int) + 1)) (.int .i64 ((n : Int) + 1))).run Tryd.prog W = .ok (.slice (some ⟨W.heap.size, 0, none⟩) (n + 1) (n + 1)) (W.alloc (.cells arr0 4)) := by
  obtain ⟨i0, hi0, hz0, hs0, hb0⟩ := info_parts info_bool
  refine ⟨madeCells #[.bool false] (n + 1), size_madeCells _ _, fun j hj => ?_, fun W => ?_⟩
  · rw [← Array.getElem?_toList, toList_madeCells_one]
    rw [List.getElem?_replicate_of_lt (by omega)]
  · have := run_make (P := Tryd.prog) W 108 4 i0 _ Tryd.underlying108 hi0 hz0 .i64 .i64 ((n : Int) + 1) ((n : Int) + 1) (by omega) (by omega) (by rw [hb0]; omega) (by omega)
    rw [this, hs0, show ((n : Int) + 1).toNat = n + 1 by omega, Nat.mul_one]
    rfl
/-- a row of flags -/
def RdBl (w : World) (g n : Nat) (T : Nat → Bool) : Prop := ∃ arr : Array Value, w.heap[g]? = some (.cells arr 4 (0, 0)) ∧ arr.size = n + 1 ∧ ∀ j, j ≤ n → arr[j]? = some (.bool (T j))
theorem RdBl.cell {w : World} {g n : Nat} {T : Nat → Bool} (h : RdBl w g n T) {j : Nat} (hj : j ≤ n) : w.cell? ⟨g, j, none⟩ = some (.bool (T j)) := by
  obtain ⟨arr, h1, _, h3⟩ := h
  simp [World.cell?, h1, h3 j hj]
theorem RdBl.frozen {w : World} {g n : Nat} {T : Nat → Bool} (h : RdBl w g n T) (j : Nat) : w.frozen? ⟨g, j, none⟩ = false := by
  obtain ⟨arr, h1, _, _⟩ := h
  simp [World.frozen?, h1]
theorem RdBl.block {w w' : World} {g n : Nat} {T : Nat → Bool} (h : RdBl w g n T) (hb : w'.heap[g]? = w.heap[g]?) : RdBl w' g n T := by
  obtain ⟨arr, h1, h2⟩ := h
  exact ⟨arr, hb.trans h1, h2⟩
theorem RdBl.set {w : World} {g n : Nat} {T : Nat → Bool} {i : Nat} (h : RdBl w g n T) (hi : i ≤ n) : RdBl (w.setCell ⟨g, i, none⟩ (.bool true)) g n (fun j => T j || decide (i = j)) := by
  obtain ⟨arr, h1, h2, h3⟩ := h
  refine ⟨arr.setIfInBounds i (.bool true), by simp [World.setCell, Array.getElem?_modify, h1], by simpa using h2, fun j hj => ?_⟩
  by_cases hji : i = j
  · subst hji
    rw [set_same (by omega)]
    simp
  · rw [set_other (fun e => hji e.symm), h3 j hj]
    simp [hji]
theorem RdBl.cong {w : World} {g n : Nat} {T T' : Nat → Bool} (h : RdBl w g n T) (he : ∀ j, T j = T' j) : RdBl w g n T' := by
  have : T = T' := funext he
  rwa [← this]

set_option maxRecDepth 100000 in
set_option maxHeartbeats 4000000 in
theorem Reach_bad (x : Lx.Lexicon) (s : ByteArray) (vx : Value) (w : World) (hr : RdL w w.heap.size vx x) (hs : s.size ≤ 1000) (hz : Lx.speechV x s ≠ 0) :
    Calls Tryd.prog 32 #[vx, .string s] w (RetNN 0 (Lx.speechV x s) w) := by
  have HSP : Hid (∀ (W : World), Below w.heap.size w W → Calls Tryd.prog 64 #[vx, .string s] W (RetIB (Lx.speechV x s) W)) := Lib.hid fun W hW => speech_any vx x s W ((hr.below hW).more hW.size) (by simp only [maxLen]; omega)
  obtain ⟨⟨v0, v1, v2, rfl, ⟨A0, c0, rfl, -⟩, ⟨A1, c1, rfl, -⟩, ⟨A2, c2, rfl, -⟩⟩, -, -, -⟩ := hr
  generalize Lx.speechV x s = cv at *
  have hq : (cv == 0) = false := by simp [hz]
  have hq' : (cv != 0) = true := by simp [hz]
  clear hz
  go_enter Tryd.func32, Tryd.ntmps32
  go_wp2_with fail
  refine (HSP.out _ ((Below.refl _ _).alloc (Nat.le_refl _) _)).mono ?_
  rintro e1 w1 ⟨rfl, hb1⟩
  have HB1 := Lib.hid (((Below.refl w.heap.size w).alloc (Nat.le_refl _) (.cells #[.slice A0 x.entries.length c0, .slice A1 x.endings.length c1, .slice A2 x.clitics.length c2] 26)).trans (hb1.mono (by simp)))
  clear hb1
  go_wp2_with fail
  go_ret2
  exact ⟨rfl, HB1.out⟩

set_option maxRecDepth 100000 in
set_option maxHeartbeats 8000000 in
theorem Reach_good (x : Lx.Lexicon) (s : ByteArray) (vx : Value) (w : World) (hr : RdL w w.heap.size vx x) (hz : Lx.speechV x s = 0) :
    Calls Tryd.prog 32 #[vx, .string s] w (RetNN ((Lx.farT (Lx.reachT (Lx.ats x s) s.size) s.size : Nat)) 0 w) := by
  obtain ⟨hchk, hsb⟩ := Lx.speech_parts hz
  obtain ⟨hs1, hs2, hal⟩ := Lx.sounds_size hsb
  have HSP : Hid (∀ (W : World), Below w.heap.size w W → Calls Tryd.prog 64 #[vx, .string s] W (RetIB (Lx.speechV x s) W)) := Lib.hid fun W hW => speech_any vx x s W ((hr.below hW).more hW.size) (by simp only [maxLen]; omega)
  have HBG : Hid (∀ (W : World), Below w.heap.size w W → Calls Tryd.prog 65 #[vx, .string s] W (fun e w' => ∃ a0 a1 a2 v, vx = .agg #[a0, a1, a2] ∧ e = .returned (.agg #[a0, a1, a2, v, .int .i64 s.size]) ∧ OwnT w' W.heap.size v (Lx.beginV x s) ∧ Below W.heap.size W w')) :=
    Lib.hid fun W hW => begin_any x s hchk hs2 hal vx W ((hr.below hW).more hW.size)
  have HZ := Lib.hid hz
  have HFIT : Hid (∀ i m, m ∈ Lx.ats x s i → 1 ≤ m.long ∧ (i ≤ s.size → i + m.long ≤ s.size)) := Lib.hid fun i m hm => by
    have h := Lx.matchesV_fits hchk m hm
    have h2 := h.le
    rw [ByteArray.size_extract] at h2
    exact ⟨h.pos, fun _ => by omega⟩
  obtain ⟨⟨v0, v1, v2, rfl, ⟨A0, c0, rfl, -⟩, ⟨A1, c1, rfl, -⟩, ⟨A2, c2, rfl, -⟩⟩, -, -, -⟩ := hr
  have hs64 : s.size ≤ 9223372036854775807 := by omega
  clear hz hchk hsb hal
  go_enter Tryd.func32, Tryd.ntmps32
  go_wp2_with fail
  refine (HSP.out _ ((Below.refl _ _).alloc (Nat.le_refl _) _)).mono ?_
  rw [HZ.out]
  rintro e1 w1 ⟨rfl, hb1⟩
  have hX1 : w1.heap[w.heap.size]? = some (.cells #[.slice A0 x.entries.length c0, .slice A1 x.endings.length c1, .slice A2 x.clitics.length c2] 26 (0, 0)) := (hb1.block _ (by simp)).trans (heap_alloc_new _ _)
  have x0 : w1.cell? ⟨w.heap.size, 0, none⟩ = some (.slice A0 x.entries.length c0) := by simp [World.cell?, hX1]
  have x1 : w1.cell? ⟨w.heap.size, 1, none⟩ = some (.slice A1 x.endings.length c1) := by simp [World.cell?, hX1]
  have x2 : w1.cell? ⟨w.heap.size, 2, none⟩ = some (.slice A2 x.clitics.length c2) := by simp [World.cell?, hX1]
  have HB1 := Lib.hid (((Below.refl w.heap.size w).alloc (Nat.le_refl _) (.cells #[.slice A0 x.entries.length c0, .slice A1 x.endings.length c1, .slice A2 x.clitics.length c2] 26)).trans (hb1.mono (by simp)))
  clear hb1 hX1
  go_wp2_with fail
  refine (HBG.out _ HB1.out).mono ?_
  rintro e3 w3 ⟨a0, a1, a2, vt, hve, rfl, hot, hb3⟩
  obtain ⟨rfl, rfl, rfl⟩ : Value.slice A0 x.entries.length c0 = a0 ∧ Value.slice A1 x.endings.length c1 = a1 ∧ Value.slice A2 x.clitics.length c2 = a2 := by simpa using hve
  have hbl : (Lx.beginV x s).length = s.size := Lx.beginTo_len _ _ _
  obtain ⟨gt, ct, rfl, hgl, hgat⟩ := ownT_at hot (by omega)
  rw [hbl]
  have HAT : Hid (∀ i, i < s.size → ∃ u, w3.cell? ⟨gt, i, none⟩ = some u ∧ RdMs w3 (fun b => b < w3.heap.size) u (Lx.ats x s i)) := Lib.hid fun i hi => hgat i _ (Lx.beginV_at x s hi)
  have HB3 := Lib.hid (HB1.out.trans (hb3.mono HB1.out.size))
  clear hot hgat hb3 hve x0 x1 x2 HB1 HBG HSP hbl
  obtain ⟨arr0, hsz0, harr0, hmk⟩ := make_bools s.size (by omega)
  have hc0 := harr0 0 (by omega)
  go_wp2_with fail
  obtain ⟨S0, hS0⟩ : ∃ S0, S0 = w3.heap.size := ⟨_, rfl⟩
  rw [← hS0]
  have HS0 := Lib.hid hS0
  have hgS : gt < S0 := by rw [hS0]; exact hgl
  rw [← hS0] at HAT
  have HSTART : Hid (∀ A B : Obj, ((w3.alloc A).alloc B).heap[S0]? = some A ∧ ((w3.alloc A).alloc B).heap[S0 + 1]? = some B ∧ Below S0 w3 ((w3.alloc A).alloc B) ∧ ((w3.alloc A).alloc B).heap.size = S0 + 2) := Lib.hid fun A B => by
    rw [hS0]
    exact ⟨start_fst _ _ _, start_res2 _ _ _, ((Below.refl _ _).alloc (Nat.le_refl _) _).alloc (by simp) _, by simp⟩
  clear hS0 hgl hmk hc0
  go_loopg [32] s.size (fun g v wr => ∃ i : Nat, i ≤ s.size ∧ g = s.size - i ∧ v = .int .i64 i ∧ Below S0 w3 wr ∧ S0 + 2 ≤ wr.heap.size ∧
    wr.heap[S0]? = some (.cells #[.slice A0 x.entries.length c0, .slice A1 x.endings.length c1, .slice A2 x.clitics.length c2, .slice (some ⟨gt, 0, none⟩) s.size ct, .int .i64 s.size] 90 (0, 0)) ∧ RdBl wr (S0 + 1) s.size (Lx.reachT (Lx.ats x s) i))
  case atStart =>
    obtain ⟨q0, q1, q2, q3⟩ := HSTART.out (.cells #[.slice A0 x.entries.length c0, .slice A1 x.endings.length c1, .slice A2 x.clitics.length c2, .slice (some ⟨gt, 0, none⟩) s.size ct, .int .i64 s.size] 90) (.cells (arr0.setIfInBounds 0 (.bool true)) 4)
    refine ⟨0, Nat.zero_le _, rfl, rfl, q2, Nat.le_of_eq q3.symm, q0, _, q1, by simp [hsz0], fun j hj => ?_⟩
    by_cases hjn : j = 0
    · subst hjn
      rw [set_same (by omega)]
      simp [Lx.reachT]
    · rw [set_other hjn, harr0 j hj]
      simp [Lx.reachT, hjn]
  case round =>
    obtain ⟨i, hi, rfl, rfl, hbel, hsz, hT0, hrn⟩ := hrel
    have HBEL := Lib.hid hbel
    have HT0 := Lib.hid hT0
    have HRN := Lib.hid hrn
    by_cases hin : i < s.size
    · have hinI : (i : Int) < (s.size : Int) := by omega
      obtain ⟨u, hu, hum⟩ := HAT.out i hin
      obtain ⟨Am, cm, rfl⟩ := hum.form
      obtain ⟨ms, hms⟩ : ∃ ms, ms = Lx.ats x s i := ⟨_, rfl⟩
      rw [← hms] at hu hum
      have HMS := Lib.hid hms
      have HUM := Lib.hid hum
      have u0 : wr.cell? ⟨gt, i, none⟩ = some (.slice Am ms.length cm) := (HBEL.out.cell (p := ⟨gt, i, none⟩) hgS).trans hu
      have hmsl : ms.length ≤ 9223372036854775807 := by obtain ⟨_, _, e, h1, h2, _⟩ := HUM.out; cases e; omega
      clear hbel hT0 hrn hms hum hu
      go_wp2_with fail
      clear u0
      go_loopg [39] ms.length (fun g j wq => ∃ a : Nat, a ≤ ms.length ∧ g = ms.length - a ∧ j = .int .i64 a ∧ Below S0 w3 wq ∧ S0 + 2 ≤ wq.heap.size ∧
        wq.heap[S0]? = some (.cells #[.slice A0 x.entries.length c0, .slice A1 x.endings.length c1, .slice A2 x.clitics.length c2, .slice (some ⟨gt, 0, none⟩) s.size ct, .int .i64 s.size] 90 (0, 0)) ∧ RdBl wq (S0 + 1) s.size (Lx.reachTo (Lx.ats x s) i a))
      case atStart => exact ⟨0, Nat.zero_le _, rfl, rfl, HBEL.out, by omega, HT0.out, by rw [Lx.reachTo_zero]; exact HRN.out⟩
      case round =>
        rename World => wq
        obtain ⟨a, ha, rfl, rfl, hbq, hsq, hTq, hrq⟩ := hrel
        have HBQ := Lib.hid hbq
        have HTQ := Lib.hid hTq
        have HRQ := Lib.hid hrq
        by_cases hlt : a < ms.length
        · obtain ⟨m, hma⟩ : ∃ m, ms[a]? = some m := ⟨_, List.getElem?_eq_getElem hlt⟩
          obtain ⟨bm, om, s2, rfl, hbm, q0, q1, q2, ⟨A', n', c', rfl⟩, q3⟩ := matches_cells HUM.out hma
          have y0 := (hbq.cell (p := ⟨bm, om + a * 4, none⟩) hbm).trans q0
          have y1 := (hbq.cell (p := ⟨bm, om + a * 4 + 1, none⟩) hbm).trans q1
          have y2 := (hbq.cell (p := ⟨bm, om + a * 4 + 2, none⟩) hbm).trans q2
          have y3 := (hbq.cell (p := ⟨bm, om + a * 4 + 3, none⟩) hbm).trans q3
          have HMA : Hid ((Lx.ats x s i)[a]? = some m) := Lib.hid (by rw [← HMS.out]; exact hma)
          have haI : (a : Int) < (ms.length : Int) := by omega
          have hfit := HFIT.out i m (List.mem_of_getElem? HMA.out)
          have hml1 := hfit.1
          have hml2 := hfit.2 (by omega)
          have hml2I : (i : Int) + (m.long : Int) ≤ (s.size : Int) := by omega
          have HSELF : Hid (Lx.reachTo (Lx.ats x s) i a i = Lx.reachT (Lx.ats x s) i i) := Lib.hid (Lx.reachTo_self fun m hm => (HFIT.out i m hm).1)
          obtain ⟨wm, hwm⟩ : ∃ wm, wm = wq.alloc (.cells #[.int .i64 m.entry, .int .i64 m.ending, .slice A' n' c', .int .i64 m.long] 99) := ⟨_, rfl⟩
          have hbm1 : Below wq.heap.size wq wm := by rw [hwm]; exact (Below.refl _ _).alloc (Nat.le_refl _) _
          have hwmb : wm.heap[wq.heap.size]? = some (.cells #[.int .i64 m.entry, .int .i64 m.ending, .slice A' n' c', .int .i64 m.long] 99 (0, 0)) := by rw [hwm]; exact heap_alloc_new _ _
          have hrm : RdBl wm (S0 + 1) s.size (Lx.reachTo (Lx.ats x s) i a) := HRQ.out.block (hbm1.block _ (by omega))
          have hsm := hbm1.size
          have HRM := Lib.hid hrm
          have HBM := Lib.hid (HBQ.out.trans (hbm1.mono (by omega)))
          have HTM := Lib.hid ((hbm1.block S0 (by omega)).trans HTQ.out)
          have z3 : wm.cell? ⟨wq.heap.size, 3, none⟩ = some (.int .i64 m.long) := by simp [World.cell?, hwmb]
          have zf : wm.frozen? ⟨S0 + 1, i + m.long, none⟩ = false := hrm.frozen _
          have zc := hrm.cell (j := i + m.long) hml2
          have z0 : wm.cell? ⟨S0 + 1, i, none⟩ = some (.bool (Lx.reachT (Lx.ats x s) i i)) := by have := hrm.cell (j := i) (by omega); rwa [HSELF.out] at this
          have HWM := Lib.hid hwm
          clear hbq hTq hrq q0 q1 q2 q3 hma hfit hwm hbm1 hwmb hrm
          go_upto_region 13 with fail
          rw [← HWM.out]
          cases hti : Lx.reachT (Lx.ats x s) i i
          · have HN : Hid (∀ j, Lx.reachTo (Lx.ats x s) i a j = Lx.reachTo (Lx.ats x s) i (a + 1) j) := Lib.hid fun j => by rw [Lx.reachTo_succ HMA.out, hti]; simp
            rw [hti] at z0
            clear hti zc
            go_wp2_with fail
            go_roundg (ms.length - (a + 1))
            case measure => omega
            case rel => exact ⟨a + 1, by omega, rfl, by go_num, HBM.out, by omega, HTM.out, HRM.out.cong HN.out⟩
          · have HN : Hid (∀ j, (Lx.reachTo (Lx.ats x s) i a j || decide (i + m.long = j)) = Lx.reachTo (Lx.ats x s) i (a + 1) j) := Lib.hid fun j => by rw [Lx.reachTo_succ HMA.out, hti]; simp
            rw [hti] at z0
            have HB9 : Hid (Below S0 w3 (wm.setCell ⟨S0 + 1, i + m.long, none⟩ (.bool true))) := Lib.hid (HBM.out.setCell (by simp) _)
            have HT9 : Hid ((wm.setCell ⟨S0 + 1, i + m.long, none⟩ (.bool true)).heap[S0]? = some (.cells #[.slice A0 x.entries.length c0, .slice A1 x.endings.length c1, .slice A2 x.clitics.length c2, .slice (some ⟨gt, 0, none⟩) s.size ct, .int .i64 s.size] 90 (0, 0))) := Lib.hid (by
              have h1 : ¬ S0 + 1 = S0 := by omega
              have := HTM.out
              simpa [World.setCell, Array.getElem?_modify, h1] using this)
            have HR9 := Lib.hid ((HRM.out.set hml2).cong HN.out)
            clear hti
            go_wp2_with fail
            go_roundg (ms.length - (a + 1))
            case measure => omega
            case rel => exact ⟨a + 1, by omega, rfl, by go_num, HB9.out, by simp [World.setCell]; omega, HT9.out, HR9.out⟩
        · have HE : Hid (RdBl wq (S0 + 1) s.size (Lx.reachT (Lx.ats x s) (i + 1))) := Lib.hid (by
            have := Lx.reachTo_end (ats := Lx.ats x s) (i := i) (a := a) (by rw [← HMS.out]; omega)
            rw [← this]; exact HRQ.out)
          clear hbq hTq hrq
          go_wp2_with fail
          go_roundg (s.size - (i + 1))
          case measure => omega
          case rel => exact ⟨i + 1, by omega, rfl, by go_num, HBQ.out, hsq, HTQ.out, HE.out⟩
    · have hin' : i = s.size := by omega
      rw [hin'] at HRN
      have t4 : wr.cell? ⟨S0, 4, none⟩ = some (.int .i64 s.size) := by simp [World.cell?, hT0]
      clear hbel hT0 hrn
      go_wp2_with fail
      go_loopg [13] s.size (fun g v wz => ∃ p : Nat, p ≤ s.size ∧ g = p ∧ v = .int .i64 p ∧ Below S0 w3 wz ∧ RdBl wz (S0 + 1) s.size (Lx.reachT (Lx.ats x s) s.size) ∧ ∀ j, p < j → j ≤ s.size → Lx.reachT (Lx.ats x s) s.size j = false)
      case atStart => exact ⟨s.size, Nat.le_refl _, rfl, rfl, HBEL.out, HRN.out, fun j h1 h2 => by omega⟩
      case round =>
        rename World => wz
        obtain ⟨p, hp, hgp, rfl, hbz, hrz, hno⟩ := hrel
        have HGP := Lib.hid hgp
        clear hgp
        have HBZ := Lib.hid hbz
        have HRZ := Lib.hid hrz
        have HNO := Lib.hid hno
        have y0 := hrz.cell hp
        clear hbz hrz hno t4
        have hpI : (p : Int) ≤ (s.size : Int) := by omega
        cases htp : Lx.reachT (Lx.ats x s) s.size p
        · have hp1 : 1 ≤ p := by
            rcases Nat.eq_zero_or_pos p with e | e
            · subst e; rw [Lx.reachT_zero] at htp; cases htp
            · exact e
          have HN : Hid (∀ j, p - 1 < j → j ≤ s.size → Lx.reachT (Lx.ats x s) s.size j = false) := Lib.hid fun j h1 h2 => by
            rcases Nat.lt_or_ge p j with q | q
            · exact HNO.out j q h2
            · rw [show j = p by omega]; exact htp
          rw [htp] at y0
          clear htp
          go_wp2_with fail
          go_roundg (p - 1)
          case measure => have := HGP.out; omega
          case rel => exact ⟨p - 1, by omega, rfl, by go_num, HBZ.out, HRZ.out, HN.out⟩
        · have HF : Hid (Lx.farT (Lx.reachT (Lx.ats x s) s.size) s.size = p) := Lib.hid (Lx.farT_at hp htp HNO.out)
          rw [htp] at y0
          clear htp
          go_wp2_with fail
          go_ret2
          exact ⟨ret_nn (by rw [HF.out]) rfl, HB3.out.trans (HBZ.out.mono (by rw [HS0.out]; exact HB3.out.size))⟩
end Go.Proofs.YtpmfjndbckblfaaDoor
namespace Go.Proofs.YtpmfjndbckblfaaDoor
open Go.RowKit

theorem Lx.ats_ok {x : Lx.Lexicon} {s : ByteArray} (h : Lx.checkV x = 0) : ∀ i, i < s.size → ∀ m ∈ Lx.ats x s i, 1 ≤ m.long ∧ m.long ≤ s.size - i ∧ m.long ≤ 24 := fun i hi m hm => by
  have h1 := Lx.matchesV_fits h m hm
  have h2 := h1.le
  rw [ByteArray.size_extract] at h2
  exact ⟨h1.pos, by omega, Lx.matchesV_far h m hm⟩
def Lx.waysV (x : Lx.Lexicon) (s : ByteArray) : Int := if Lx.speechV x s = 0 then (Lx.wayT (Lx.ats x s) s.size s.size 0 : Nat) else 0
def Lx.farestV (x : Lx.Lexicon) (s : ByteArray) : Int := if Lx.speechV x s = 0 then (Lx.farT (Lx.reachT (Lx.ats x s) s.size) s.size : Nat) else 0
theorem Ways_any (x : Lx.Lexicon) (s : ByteArray) (vx : Value) (w : World) (hr : RdL w w.heap.size vx x) (hs : s.size ≤ 1000) : Calls Tryd.prog 30 #[vx, .string s] w (RetNN (Lx.waysV x s) (Lx.speechV x s) w) := by
  by_cases hz : Lx.speechV x s = 0
  · have h := Ways_good x s vx w hr hz
    have e : Lx.waysV x s = ((Lx.wayT (Lx.ats x s) s.size s.size 0 : Nat) : Int) := by unfold Lx.waysV; rw [if_pos hz]
    rw [e, hz]
    exact h
  · have h := Ways_bad x s vx w hr hs hz
    have e : Lx.waysV x s = 0 := by unfold Lx.waysV; rw [if_neg hz]
    rw [e]
    exact h

theorem Reach_any (x : Lx.Lexicon) (s : ByteArray) (vx : Value) (w : World) (hr : RdL w w.heap.size vx x) (hs : s.size ≤ 1000) : Calls Tryd.prog 32 #[vx, .string s] w (RetNN (Lx.farestV x s) (Lx.speechV x s) w) := by
  by_cases hz : Lx.speechV x s = 0
  · have h := Reach_good x s vx w hr hz
    have e : Lx.farestV x s = ((Lx.farT (Lx.reachT (Lx.ats x s) s.size) s.size : Nat) : Int) := by unfold Lx.farestV; rw [if_pos hz]
    rw [e, hz]
    exact h
  · have h := Reach_bad x s vx w hr hs hz
    have e : Lx.farestV x s = 0 := by unfold Lx.farestV; rw [if_neg hz]
    rw [e]
    exact h

end Go.Proofs.YtpmfjndbckblfaaDoor
namespace Go.Proofs.YtpmfjndbckblfaaDoor
open Go.RowKit

theorem Lx.formsR_fine {x : Lx.Lexicon} {s : ByteArray} (hchk : Lx.checkV x = 0) : ∀ i t f, f ∈ Lx.formsR x s i t → Lx.FitsC x f ∧ FSmall f := fun i t f hf => by
  have e : Lx.formsR x s i t = Lx.withV x (s.extract i t) := (Lx.with_rwith hchk).symm
  rw [e] at hf
  exact ⟨Lx.withV_fits2 hchk f hf, Lx.withV_small2 hchk f hf⟩
theorem Lx.cutsR_fine (x : Lx.Lexicon) (s : ByteArray) (most : Int) : (Lx.cutsR x s most).length ≤ 64 ∧ ∀ c ∈ Lx.cutsR x s most, ∀ f ∈ c.1, FSmall f := by
  unfold Lx.cutsR
  by_cases h : Lx.cutsN x s most = 0
  · rw [if_pos h]
    unfold Lx.cutsN at h
    by_cases hz : Lx.speechV x s = 0
    · rw [if_neg (by simp [hz])] at h
      have hw : Lx.withinB most 1 64 = true := by
        cases q : Lx.withinB most 1 64
        · rw [if_pos q] at h; cases h
        · rfl
      have hm : 1 ≤ most ∧ most ≤ 64 := by simpa [Lx.withinB] using hw
      have hchk := (Lx.speech_parts hz).1
      rw [Lx.cuts_law hchk]
      have hf := Lx.rtab_fine (x := x) (most := most.toNat) (forms := Lx.formsR x s) (n := s.size) (Q := FSmall) (by omega) (fun i t f hf => (Lx.formsR_fine hchk i t f hf).2) s.size 0
      exact ⟨by have := hf.len; omega, fun c hc => hf.mem c hc⟩
    · rw [if_pos hz] at h
      exact absurd h hz
  · rw [if_neg h]
    exact ⟨by simp, fun c hc => by cases hc⟩
/-- the cells of one cut -/
theorem rdg_cut {w : World} {ok : Nat → Prop} {A : Option Addr} {n c : Nat} {l : List Lx.Cut} (h : RdG KCut w ok (.slice A n c) l) {i : Nat} {t : Lx.Cut} (hi : l[i]? = some t) :
    ∃ b off v, A = some ⟨b, off, none⟩ ∧ ok b ∧ w.cell? ⟨b, off + i * 2, none⟩ = some v ∧ w.cell? ⟨b, off + i * 2 + 1, none⟩ = some (.int .i64 t.2) ∧ RdG KForm w ok v t.1 := by
  obtain ⟨b, off, hA, hb, hcell⟩ := h.at (by have := (List.getElem?_eq_some_iff.1 hi).1; omega)
  obtain ⟨cs, ⟨v, rfl, hv⟩, hcs⟩ := hcell i t hi
  exact ⟨b, off, v, hA, hb, hcs 0 _ rfl, hcs 1 _ rfl, hv⟩
end Go.Proofs.YtpmfjndbckblfaaDoor
namespace Go.Proofs.YtpmfjndbckblfaaDoor
open Go.RowKit

section count
theorem Lx.fold_len {most : Nat} (L : List Lx.Cut) : (L.foldl (Lx.putC most) []).length = min most L.length := by
  have e := Lx.foldl_putC most L []
  rw [List.take_nil] at e
  rw [e, List.length_take, (Lx.foldl_insC_perm L []).length_eq, List.append_nil]
theorem Lx.sum_min {α : Type} (most : Nat) (f : α → Nat) : ∀ l : List α, min most (l.map fun a => min most (f a)).sum = min most (l.map f).sum
  | [] => rfl
  | a :: r => by
    have h := Lx.sum_min most f r
    simp only [List.map_cons, List.sum_cons]
    omega
theorem Lx.tab_count {x : Lx.Lexicon} {most : Nat} {ats : Nat → List Lx.Match} {n : Nat} (h1 : 1 ≤ most) (h2 : most ≤ Lx.cnt) : ∀ k j, (Lx.tabT x (Lx.putT most) ats n k j).length = min most (Lx.wayT ats n k j)
  | 0, j => by
    unfold Lx.tabT Lx.wayT
    split
    · simp; omega
    · simp
  | k + 1, j => by
    unfold Lx.tabT Lx.wayT
    split
    · have e := congrArg List.length (Lx.map_addMs (x := x) (most := most) (tab := Lx.tabT x (Lx.putT most) ats n k) (i := n - (k + 1)) (ats (n - (k + 1))))
      rw [List.length_map, Lx.fold_len, List.length_flatMap] at e
      rw [e, Lx.foldl_addTo _ _ (Nat.zero_le _), Nat.zero_add]
      have e2 : ((ats (n - (k + 1))).map fun m => (((Lx.tabT x (Lx.putT most) ats n k (n - (k + 1) + m.long)).map Lx.cutOf).map (Lx.pushC x m.form)).length) = (ats (n - (k + 1))).map fun m => min most (Lx.wayT ats n k (n - (k + 1) + m.long)) := by
        refine List.map_congr_left fun m _ => ?_
        rw [List.length_map, List.length_map, Lx.tab_count h1 h2 k _]
      rw [e2, Lx.sum_min most (fun m : Lx.Match => Lx.wayT ats n k (n - (k + 1) + m.long))]
      omega
    · exact Lx.tab_count h1 h2 k j
end count

section path
inductive Lx.Path (ats : Nat → List Lx.Match) : Nat → Nat → Prop
  | refl (i : Nat) : Lx.Path ats i i
  | step {i j : Nat} (m : Lx.Match) : m ∈ ats i → Lx.Path ats (i + m.long) j → Lx.Path ats i j
variable {ats : Nat → List Lx.Match} {n : Nat}
theorem Lx.Path.snoc {i j : Nat} (h : Lx.Path ats i j) {m : Lx.Match} (hm : m ∈ ats j) : Lx.Path ats i (j + m.long) := by
  induction h with
  | refl i => exact .step m hm (.refl _)
  | step m' hm' _ ih => exact .step m' hm' (ih hm)
theorem Lx.way_path (hat : ∀ i, i < n → ∀ m ∈ ats i, 1 ≤ m.long ∧ i + m.long ≤ n) : ∀ k, k ≤ n → ∀ j, n - k ≤ j → j ≤ n → (0 < Lx.wayT ats n k j ↔ Lx.Path ats j n)
  | 0, _, j, h1, h2 => by
    have e : j = n := by omega
    subst e
    unfold Lx.wayT
    rw [if_pos rfl]
    exact ⟨fun _ => .refl _, fun _ => Nat.one_pos⟩
  | k + 1, hk, j, h1, h2 => by
    unfold Lx.wayT
    by_cases hj : j = n - (k + 1)
    · rw [if_pos hj, Lx.foldl_addTo _ _ (Nat.zero_le _), Nat.zero_add]
      have hjn : j < n := by omega
      have hc : 0 < Lx.cnt := by simp [Lx.cnt]
      rw [← hj]
      have key : (∃ m ∈ ats j, 0 < Lx.wayT ats n k (j + m.long)) ↔ Lx.Path ats j n := by
        constructor
        · rintro ⟨m, hm, h0⟩
          have hh := hat j hjn m hm
          exact .step m hm ((Lx.way_path hat k (by omega) _ (by omega) hh.2).1 h0)
        · intro hp
          cases hp with
          | refl => omega
          | step m hm hp =>
            have hh := hat j hjn m hm
            exact ⟨m, hm, (Lx.way_path hat k (by omega) _ (by omega) hh.2).2 hp⟩
      rw [← key]
      have hs : 0 < ((ats j).map fun m => Lx.wayT ats n k (j + m.long)).sum ↔ ∃ m ∈ ats j, 0 < Lx.wayT ats n k (j + m.long) := by
        generalize ats j = l
        induction l with
        | nil => simp
        | cons a r ih =>
          rw [List.map_cons, List.sum_cons]
          constructor
          · intro h
            by_cases ha : 0 < Lx.wayT ats n k (j + a.long)
            · exact ⟨a, by simp, ha⟩
            · obtain ⟨m, hm, h0⟩ := ih.1 (by omega)
              exact ⟨m, by simp [hm], h0⟩
          · rintro ⟨m, hm, h0⟩
            rcases List.mem_cons.1 hm with e | hm
            · rw [← e]; omega
            · have := ih.2 ⟨m, hm, h0⟩
              omega
      rw [← hs]
      omega
    · rw [if_neg hj]
      exact Lx.way_path hat k (by omega) j (by omega) h2
theorem Lx.reach_path1 : ∀ i j, Lx.reachT ats i j = true → Lx.Path ats 0 j
  | 0, j, h => by
    unfold Lx.reachT at h
    have := of_decide_eq_true h
    subst this
    exact .refl _
  | i + 1, j, h => by
    unfold Lx.reachT at h
    rw [Bool.or_eq_true, Bool.and_eq_true, List.any_eq_true] at h
    rcases h with h | ⟨h1, m, hm, h2⟩
    · exact Lx.reach_path1 i j h
    · have := of_decide_eq_true h2
      subst this
      exact (Lx.reach_path1 i i h1).snoc hm
theorem Lx.reach_mono {j : Nat} : ∀ {i i' : Nat}, i ≤ i' → Lx.reachT ats i j = true → Lx.reachT ats i' j = true
  | i, 0, h, hr => by
    have : i = 0 := by omega
    subst this
    exact hr
  | i, i' + 1, h, hr => by
    by_cases e : i = i' + 1
    · subst e; exact hr
    · unfold Lx.reachT
      rw [Lx.reach_mono (by omega : i ≤ i') hr]
      rfl
theorem Lx.reach_path2 (hat : ∀ i, i < n → ∀ m ∈ ats i, 1 ≤ m.long ∧ i + m.long ≤ n) {a b : Nat} (hp : Lx.Path ats a b) : b = n → a ≤ n → Lx.reachT ats a a = true → Lx.reachT ats b b = true := by
  induction hp with
  | refl i => intro _ _ h; exact h
  | @step i j m hm hp ih =>
    intro hb ha hr
    by_cases hin : i < n
    · have hh := hat i hin m hm
      refine ih hb hh.2 (Lx.reach_mono (i := i + 1) (by omega) ?_)
      unfold Lx.reachT
      rw [Bool.or_eq_true]
      right
      rw [hr, Bool.true_and, List.any_eq_true]
      exact ⟨m, hm, by simp⟩
    · have : i = j := by omega
      rw [← this]; exact hr
theorem Lx.ways_reach (hn : 1 ≤ n) (hat : ∀ i, i < n → ∀ m ∈ ats i, 1 ≤ m.long ∧ i + m.long ≤ n) : 0 < Lx.wayT ats n n 0 ↔ Lx.farT (Lx.reachT ats n) n = n := by
  rw [Lx.way_path hat n (Nat.le_refl _) 0 (by omega) (Nat.zero_le _)]
  have h1 : Lx.Path ats 0 n ↔ Lx.reachT ats n n = true := ⟨fun h => Lx.reach_path2 hat h rfl (Nat.zero_le _) rfl, fun h => Lx.reach_path1 _ _ h⟩
  rw [h1]
  obtain ⟨k, rfl⟩ : ∃ k, n = k + 1 := ⟨n - 1, by omega⟩
  rw [Lx.farT.eq_def]
  simp only
  constructor
  · intro h; rw [if_pos h]
  · intro h
    by_cases hr : Lx.reachT ats (k + 1) (k + 1) = true
    · exact hr
    · rw [if_neg hr] at h
      have := Lx.farT_le (Lx.reachT ats (k + 1)) k
      omega
end path

section said
theorem Lx.saidC_append (x : Lx.Lexicon) (c : Int) (g : Lx.Clitic) (hg : x.clitics[c.toNat]? = some g) : ∀ (l : List Int) (t : ByteArray), Lx.saidC x (l ++ [c]) t = Lx.saidC x l t ++ g.text
  | [], t => by simp [Lx.saidC, hg]
  | a :: r, t => by
    simp only [List.cons_append, Lx.saidC]
    split
    · exact Lx.saidC_append x c g hg r _
    · exact Lx.saidC_append x c g hg r _
theorem Lx.clitOK_append {n c : Int} (hc : c < n) : ∀ (l : List Int) (last : Int), Lx.clitOK n last l = true → last < c → (∀ a ∈ l, a < c) → Lx.clitOK n last (l ++ [c]) = true
  | [], last, _, h, _ => by simp [Lx.clitOK, h, hc]
  | a :: r, last, h, _, ha => by
    simp only [Lx.clitOK, Bool.and_eq_true, List.cons_append] at h ⊢
    exact ⟨h.1, h.2.1, Lx.clitOK_append hc r a h.2.2 (ha a (by simp)) (fun b hb => ha b (by simp [hb]))⟩
theorem Lx.pre_take {s : ByteArray} {k : Nat} {p : ByteArray} (h : Lx.pre s k p = true) : s.data.toList.take k ++ p.data.toList = s.data.toList.take (k + p.size) := by
  unfold Lx.pre at h
  have h1 := List.prefix_iff_eq_take.1 (List.isPrefixOf_iff_prefix.1 h)
  rw [List.take_add]
  congr 1
/-- a match is a valid form, and its sounds begin the line -/
structure Lx.MSaid (x : Lx.Lexicon) (s : ByteArray) (first : Nat) (m : Lx.Match) : Prop where
  said : (Lx.saidV x m.form).data.toList = s.data.toList.take m.long
  ok : Lx.formV x m.form = 0
  low : ∀ c ∈ m.clitics, c < (first : Int)
theorem Lx.leanF_said {x : Lx.Lexicon} {s : ByteArray} : ∀ (fuel : Nat) (m : Lx.Match) (first : Nat), Lx.MSaid x s first m → ∀ m' ∈ Lx.leanF x s fuel m first, (Lx.saidV x m'.form).data.toList = s.data.toList.take m'.long ∧ Lx.formV x m'.form = 0
  | 0, m, first, h, m', hm => by simp [Lx.leanF] at hm; subst hm; exact ⟨h.said, h.ok⟩
  | fuel + 1, m, first, h, m', hm => by
    unfold Lx.leanF at hm
    rw [List.mem_cons] at hm
    rcases hm with rfl | hm
    · exact ⟨h.said, h.ok⟩
    · split at hm
      · simp at hm
      · rename_i h3
        rw [List.mem_flatMap] at hm
        obtain ⟨c, hcr, hm⟩ := hm
        rw [List.mem_range'_1] at hcr
        split at hm
        · rename_i g hg
          split at hm
          · rename_i hp
            refine Lx.leanF_said fuel _ _ ⟨?_, ?_, ?_⟩ m' hm
            · show (Lx.saidC x (m.clitics ++ [(c : Int)]) (Lx.stemV x ⟨m.entry, m.ending, m.clitics ++ [(c : Int)]⟩)).data.toList = _
              rw [Lx.saidC_append x (c : Int) g (by simpa using hg)]
              have e : Lx.saidC x m.clitics (Lx.stemV x ⟨m.entry, m.ending, m.clitics ++ [(c : Int)]⟩) = Lx.saidV x m.form := rfl
              rw [e, ByteArray.data_append, Array.toList_append, h.said]
              exact Lx.pre_take hp
            · have hv := Lx.valid_of h.ok
              have ho := h.ok
              have hcl : c < x.clitics.length := (List.getElem?_eq_some_iff.1 hg).1
              unfold Lx.formV at ho ⊢
              rw [if_neg (by simp [hv.chk])] at ho ⊢
              have hw : Lx.withinB m.form.entry 0 ((x.entries.length : Int) - 1) = true := by
                cases q : Lx.withinB m.form.entry 0 ((x.entries.length : Int) - 1)
                · rw [if_pos q] at ho; cases ho
                · rfl
              rw [if_neg (by rw [hw]; simp)] at ho
              have he : Lx.endOK x m.form = true := by
                cases q : Lx.endOK x m.form
                · rw [if_pos q] at ho; cases ho
                · rfl
              rw [if_neg (by rw [he]; simp), if_neg (by have := hv.few; omega)] at ho
              have hco : Lx.clitOK x.clitics.length (-1) m.form.clitics = true := by
                cases q : Lx.clitOK x.clitics.length (-1) m.form.clitics
                · rw [if_pos q] at ho; cases ho
                · rfl
              rw [if_neg (by show ¬ Lx.withinB m.form.entry 0 ((x.entries.length : Int) - 1) = false; rw [hw]; simp), if_neg (by show ¬ Lx.endOK x m.form = false; rw [he]; simp),
                if_neg (by show ¬ 3 < (m.clitics ++ [(c : Int)]).length; have := hv.few; rw [List.length_append, List.length_singleton]; simp only [Lx.Match.form] at this; omega)]
              rw [if_neg]
              show ¬ Lx.clitOK x.clitics.length (-1) (m.clitics ++ [(c : Int)]) = false
              rw [Lx.clitOK_append (by omega) m.clitics (-1) hco (by omega) (fun a ha => by have := h.low a ha; omega)]
              simp
            · intro a ha
              have ha' : a ∈ m.clitics ++ [(c : Int)] := ha
              rw [List.mem_append, List.mem_singleton] at ha'
              rcases ha' with q | q
              · have := h.low a q; omega
              · omega
          · simp at hm
        · simp at hm
theorem Lx.matchesV_said {x : Lx.Lexicon} {s : ByteArray} (hc : Lx.checkV x = 0) : ∀ m ∈ Lx.matchesV x s, (Lx.saidV x m.form).data.toList = s.data.toList.take m.long ∧ Lx.formV x m.form = 0 := by
  intro m hm
  unfold Lx.matchesV Lx.matchesN at hm
  rw [List.mem_flatMap] at hm
  obtain ⟨i, hi, hm⟩ := hm
  rw [List.mem_range] at hi
  unfold Lx.matchesE at hm
  split at hm
  · rename_i e he
    split at hm
    · unfold Lx.matchesTo at hm
      rw [List.mem_flatMap] at hm
      obtain ⟨q, hq, hm⟩ := hm
      rw [List.mem_range] at hq
      unfold Lx.matchesQ at hm
      split at hm
      · simp at hm
      · rename_i hsk
        split at hm
        · rename_i hp
          refine Lx.leanF_said 3 _ 0 ⟨?_, ?_, fun c hc => by simp at hc⟩ m hm
          · have e2 := Lx.pre_take hp
            rw [List.take_zero, List.nil_append, Nat.zero_add] at e2
            exact e2
          · refine Lx.formV_0 hc (Lx.within_iff.2 ⟨?_, ?_⟩) ?_ (by simp [Lx.Match.form]) rfl
            · show (0 : Int) ≤ (i : Int); omega
            · show (i : Int) ≤ (x.entries.length : Int) - 1; omega
            · by_cases hq0 : q = 0
              · subst hq0
                exact Lx.endOK_none rfl
              · have hql : q - 1 < x.endings.length := by omega
                have hsk' : Lx.skipB x e q = false := by simpa using hsk
                unfold Lx.skipB at hsk'
                rw [show decide (0 < q) = true by simp; omega, Bool.true_and, List.getElem?_eq_getElem hql] at hsk'
                have hk : x.endings[q - 1].kind = e.kind := by simpa using hsk'
                have e1 : ((q : Int) - 1).toNat = q - 1 := by omega
                rw [Lx.endOK_in (g := x.endings[q - 1]) (e := e) (by show ¬ (q : Int) - 1 = -1; omega) (Lx.within_iff.2 ⟨by show (0 : Int) ≤ (q : Int) - 1; omega, by show (q : Int) - 1 ≤ (x.endings.length : Int) - 1; omega⟩)
                  (by show x.endings[((q : Int) - 1).toNat]? = _; rw [e1]; exact List.getElem?_eq_getElem hql) (by show x.entries[((i : Nat) : Int).toNat]? = _; simpa using he)]
                simpa using hk
        · simp at hm
    · simp at hm
  · simp at hm
end said

section alike
theorem Lx.leanF_keeps {x : Lx.Lexicon} {s : ByteArray} : ∀ (fuel : Nat) (m : Lx.Match) (first : Nat), ∀ m' ∈ Lx.leanF x s fuel m first, m'.entry = m.entry ∧ m'.ending = m.ending ∧ m.clitics <+: m'.clitics
  | 0, m, first, m', hm => by simp [Lx.leanF] at hm; subst hm; exact ⟨rfl, rfl, List.prefix_refl _⟩
  | fuel + 1, m, first, m', hm => by
    unfold Lx.leanF at hm
    rw [List.mem_cons] at hm
    rcases hm with rfl | hm
    · exact ⟨rfl, rfl, List.prefix_refl _⟩
    · split at hm
      · simp at hm
      · rw [List.mem_flatMap] at hm
        obtain ⟨c, _, hm⟩ := hm
        split at hm
        · split at hm
          · have h := Lx.leanF_keeps fuel _ _ m' hm
            exact ⟨h.1, h.2.1, (List.prefix_append _ _).trans h.2.2⟩
          · simp at hm
        · simp at hm
theorem Lx.leanC_keeps {x : Lx.Lexicon} {s : ByteArray} {k : Nat} {m : Lx.Match} {c : Nat} : ∀ m' ∈ Lx.leanC x s k m c, m.clitics ++ [(c : Int)] <+: m'.clitics := by
  intro m' hm
  unfold Lx.leanC at hm
  split at hm
  · split at hm
    · exact (Lx.leanF_keeps k _ _ m' hm).2.2
    · simp at hm
  · simp at hm
abbrev Lx.Other (a b : Lx.Match) : Prop := a.form ≠ b.form
theorem Lx.leanF_other {x : Lx.Lexicon} {s : ByteArray} : ∀ (fuel : Nat) (m : Lx.Match) (first : Nat), (Lx.leanF x s fuel m first).Pairwise Lx.Other
  | 0, m, first => by simp [Lx.leanF]
  | fuel + 1, m, first => by
    by_cases h3 : m.clitics.length = 3
    · unfold Lx.leanF
      rw [if_pos h3]
      exact List.pairwise_singleton _ _
    · rw [Lx.leanF_succ h3, List.pairwise_cons]
      refine ⟨fun m' hm e => ?_, List.pairwise_flatMap.2 ⟨fun c _ => ?_, ?_⟩⟩
      · rw [List.mem_flatMap] at hm
        obtain ⟨c, _, hm⟩ := hm
        have h := (Lx.leanC_keeps m' hm).length_le
        have e' : m.clitics = m'.clitics := congrArg Lx.Form.clitics e
        rw [← e', List.length_append, List.length_singleton] at h
        omega
      · unfold Lx.leanC
        split
        · split
          · exact Lx.leanF_other fuel _ _
          · exact List.Pairwise.nil
        · exact List.Pairwise.nil
      · refine (List.nodup_range' (step := 1)).imp fun {c d} hcd a ha b hb e => hcd ?_
        have e' : a.clitics = b.clitics := congrArg Lx.Form.clitics e
        obtain ⟨u, hu⟩ := Lx.leanC_keeps a ha
        obtain ⟨v, hv⟩ := Lx.leanC_keeps b hb
        rw [← e', ← hu, List.append_assoc, List.append_assoc] at hv
        have := List.append_cancel_left hv
        simp at this
        omega
theorem Lx.matchesV_other {x : Lx.Lexicon} {s : ByteArray} : (Lx.matchesV x s).Pairwise Lx.Other := by
  have hE : ∀ i, ∀ m ∈ Lx.matchesE x s i, m.entry = (i : Int) := fun i m hm => by
    unfold Lx.matchesE at hm
    split at hm
    · split at hm
      · unfold Lx.matchesTo at hm
        rw [List.mem_flatMap] at hm
        obtain ⟨q, _, hm⟩ := hm
        unfold Lx.matchesQ at hm
        split at hm
        · simp at hm
        · split at hm
          · exact (Lx.leanF_keeps _ _ _ m hm).1
          · simp at hm
      · simp at hm
    · simp at hm
  have hQ : ∀ i e q, ∀ m ∈ Lx.matchesQ x s i e q, m.ending = (q : Int) - 1 := fun i e q m hm => by
    unfold Lx.matchesQ at hm
    split at hm
    · simp at hm
    · split at hm
      · exact (Lx.leanF_keeps _ _ _ m hm).2.1
      · simp at hm
  unfold Lx.matchesV Lx.matchesN
  refine List.pairwise_flatMap.2 ⟨fun i _ => ?_, List.nodup_range.imp fun {i j} hij a ha b hb e => hij ?_⟩
  · unfold Lx.matchesE
    split
    · split
      · unfold Lx.matchesTo
        refine List.pairwise_flatMap.2 ⟨fun q _ => ?_, List.nodup_range.imp fun {q r} hqr a ha b hb e => hqr ?_⟩
        · unfold Lx.matchesQ
          split
          · exact List.Pairwise.nil
          · split
            · exact Lx.leanF_other _ _ _
            · exact List.Pairwise.nil
        · have e' : a.ending = b.ending := congrArg Lx.Form.ending e
          rw [hQ _ _ _ a ha, hQ _ _ _ b hb] at e'
          omega
      · exact List.Pairwise.nil
    · exact List.Pairwise.nil
  · have e' : a.entry = b.entry := congrArg Lx.Form.entry e
    rw [hE _ a ha, hE _ b hb] at e'
    omega
abbrev Lx.Diff (c d : Lx.Cut) : Prop := c.1 ≠ d.1
theorem Lx.fold_diff {most : Nat} {L : List Lx.Cut} (h : L.Pairwise Lx.Diff) : (L.foldl (Lx.putC most) []).Pairwise Lx.Diff := by
  have e := Lx.foldl_putC most L []
  rw [List.take_nil] at e
  rw [e]
  refine List.Pairwise.sublist (List.take_sublist _ _) ?_
  have hp := Lx.foldl_insC_perm L []
  rw [List.append_nil] at hp
  exact hp.symm.pairwise h fun q => Ne.symm q
theorem Lx.tab_diff {x : Lx.Lexicon} {most : Nat} {ats : Nat → List Lx.Match} {n : Nat} (ho : ∀ i, (ats i).Pairwise Lx.Other) : ∀ k j, ((Lx.tabT x (Lx.putT most) ats n k j).map Lx.cutOf).Pairwise Lx.Diff
  | 0, j => by
    unfold Lx.tabT
    split
    · exact List.pairwise_singleton _ _
    · exact List.Pairwise.nil
  | k + 1, j => by
    unfold Lx.tabT
    split
    · rw [Lx.map_addMs]
      refine Lx.fold_diff (List.pairwise_flatMap.2 ⟨fun m _ => ?_, (ho _).imp fun {a b} hab c hc d hd e => hab ?_⟩)
      · rw [List.pairwise_map]
        exact (Lx.tab_diff ho k _).imp fun {c d} hcd e => hcd (List.cons.inj e).2
      · obtain ⟨c', _, rfl⟩ := List.mem_map.1 hc
        obtain ⟨d', _, rfl⟩ := List.mem_map.1 hd
        exact (List.cons.inj e).1
    · exact Lx.tab_diff ho k j
end alike

section what
/-- the sounds of forms, and what they weigh -/
def Lx.saidAll (x : Lx.Lexicon) (l : List Lx.Form) : List UInt8 := l.flatMap fun f => (Lx.saidV x f).data.toList
def Lx.heavyAll (x : Lx.Lexicon) (l : List Lx.Form) : Int := (l.map (Lx.heavyV x)).sum
structure Lx.CutOK (x : Lx.Lexicon) (t : List UInt8) (c : Lx.Cut) : Prop where
  ok : ∀ f ∈ c.1, Lx.formV x f = 0
  said : Lx.saidAll x c.1 = t
  heavy : c.2 = Lx.heavyAll x c.1
theorem Lx.tab_said {x : Lx.Lexicon} {most : Nat} {ats : Nat → List Lx.Match} {n : Nat} {t : List UInt8} (hn : t.length = n)
    (hat : ∀ i, i < n → ∀ m ∈ ats i, 1 ≤ m.long ∧ i + m.long ≤ n ∧ (Lx.saidV x m.form).data.toList = (t.drop i).take m.long ∧ Lx.formV x m.form = 0) :
    ∀ k, k ≤ n → ∀ j, j ≤ n → ∀ u ∈ Lx.tabT x (Lx.putT most) ats n k j, Lx.CutOK x (t.drop j) (Lx.cutOf u)
  | 0, _, j, _, u, hu => by
    unfold Lx.tabT at hu
    split at hu
    · rename_i e
      simp at hu
      subst hu
      subst e
      exact ⟨fun f hf => by simp [Lx.cutOf] at hf, by rw [← hn, List.drop_length]; rfl, rfl⟩
    · simp at hu
  | k + 1, hk, j, hj, u, hu => by
    unfold Lx.tabT at hu
    split at hu
    · rename_i e
      have hlt : n - (k + 1) < n := by omega
      refine (Lx.addMs_inv (P := fun u => Lx.CutOK x (t.drop j) (Lx.cutOf u)) (fun m hm v hv => ?_)).2 u hu
      obtain ⟨h1, h2, h3, h4⟩ := hat _ hlt m hm
      have ih := Lx.tab_said hn hat k (by omega) _ h2 v hv
      rw [e]
      refine ⟨fun f hf => ?_, ?_, ?_⟩
      · have hf' : f ∈ m.form :: (Lx.cutOf v).1 := hf
        rcases List.mem_cons.1 hf' with q | q
        · rw [q]; exact h4
        · exact ih.ok f q
      · show (m.form :: (Lx.cutOf v).1).flatMap _ = _
        rw [List.flatMap_cons]
        have := ih.said
        unfold Lx.saidAll at this
        rw [this, h3, ← List.drop_drop, List.take_append_drop]
      · show Lx.heavyV x m.form + Lx.tw v = ((m.form :: (Lx.cutOf v).1).map (Lx.heavyV x)).sum
        rw [List.map_cons, List.sum_cons]
        have := ih.heavy
        unfold Lx.heavyAll at this
        rw [← this]
        rfl
    · exact Lx.tab_said hn hat k (by omega) j hj u hu
theorem Lx.tab_ascT {x : Lx.Lexicon} {most : Nat} {ats : Nat → List Lx.Match} {n : Nat} : ∀ k j, Lx.AscT (Lx.tabT x (Lx.putT most) ats n k j)
  | 0, j => by
    unfold Lx.tabT
    split
    · exact List.pairwise_singleton _ _
    · exact List.Pairwise.nil
  | k + 1, j => by
    unfold Lx.tabT
    split
    · exact (Lx.addMs_inv (P := fun _ => True) (fun _ _ _ _ => trivial)).1
    · exact Lx.tab_ascT k j
theorem Lx.rb_weight {c d : Lx.Cut} (h : Lx.rb d c = false) : c.2 ≤ d.2 := by
  unfold Lx.rb at h
  split at h
  · omega
  · have := of_decide_eq_false h
    omega
end what
end Go.Proofs.YtpmfjndbckblfaaDoor
namespace Go.Proofs.YtpmfjndbckblfaaDoor
open Go.RowKit

theorem Lx.ats_said {x : Lx.Lexicon} {s : ByteArray} (h : Lx.checkV x = 0) : ∀ i, i < s.size → ∀ m ∈ Lx.ats x s i, 1 ≤ m.long ∧ i + m.long ≤ s.size ∧ (Lx.saidV x m.form).data.toList = (s.data.toList.drop i).take m.long ∧ Lx.formV x m.form = 0 := fun i hi m hm => by
  have h1 := Lx.ats_ok h i hi m hm
  have h2 := Lx.matchesV_said h m hm
  refine ⟨h1.1, by omega, ?_, h2.2⟩
  rw [h2.1, Lib.extract_to_end]
/-- all that the law asks of the cuts -/
structure Lx.Apart (x : Lx.Lexicon) (s : ByteArray) (most : Int) (l : List Lx.Cut) (W R : Nat) : Prop where
  chk : Lx.checkV x = 0
  m1 : 1 ≤ most
  m2 : most ≤ 64
  size : 1 ≤ s.size ∧ s.size ≤ 64
  len : l.length = min most.toNat W
  cnt : W ≤ 1099511627776
  far : 0 < W ↔ R = s.size
  ok : ∀ c ∈ l, Lx.CutOK x s.data.toList c
  few : ∀ c ∈ l, c.1.length ≤ 64
  asc : ∀ (i : Nat) (c d : Lx.Cut), l[i]? = some c → l[i + 1]? = some d → c.2 ≤ d.2 ∧ d.1 ≠ c.1
theorem Lx.apart (x : Lx.Lexicon) (s : ByteArray) (most : Int) (h : Lx.cutsN x s most = 0) : Lx.speechV x s = 0 ∧ Lx.Apart x s most (Lx.cutsR x s most) (Lx.wayT (Lx.ats x s) s.size s.size 0) (Lx.farT (Lx.reachT (Lx.ats x s) s.size) s.size) := by
  have e2 : Lx.cutsR x s most = Lx.cutsP x s most.toNat := by unfold Lx.cutsR; rw [if_pos h]
  unfold Lx.cutsN at h
  have hz : Lx.speechV x s = 0 := by
    by_cases hz : Lx.speechV x s = 0
    · exact hz
    · rw [if_pos hz] at h; exact h
  rw [if_neg (by simp [hz])] at h
  have hw : Lx.withinB most 1 64 = true := by
    cases q : Lx.withinB most 1 64
    · rw [if_pos q] at h; cases h
    · rfl
  have hm : 1 ≤ most ∧ most ≤ 64 := by simpa [Lx.withinB] using hw
  obtain ⟨hchk, hsb⟩ := Lx.speech_parts hz
  obtain ⟨hs1, hs2, -⟩ := Lx.sounds_size hsb
  have hP : Lx.cutsP x s most.toNat = (Lx.tabT x (Lx.putT most.toNat) (Lx.ats x s) s.size s.size 0).map Lx.cutOf := rfl
  have hat := Lx.ats_said (s := s) hchk
  have hdiff := Lx.tab_diff (x := x) (most := most.toNat) (ats := Lx.ats x s) (n := s.size) (fun i => Lx.matchesV_other) s.size 0
  have hasc := Lx.tab_ascT (x := x) (most := most.toNat) (ats := Lx.ats x s) (n := s.size) s.size 0
  refine ⟨hz, hchk, hm.1, hm.2, ⟨hs1, hs2⟩, ?_, Lx.wayT_le _ _, Lx.ways_reach hs1 (fun i hi m hm => ⟨(hat i hi m hm).1, (hat i hi m hm).2.1⟩), ?_, ?_, ?_⟩
  · rw [e2, hP, List.length_map]
    exact Lx.tab_count (by omega) (by simp [Lx.cnt]; omega) _ _
  · intro c hc
    rw [e2, hP] at hc
    obtain ⟨u, hu, rfl⟩ := List.mem_map.1 hc
    have := Lx.tab_said (x := x) (most := most.toNat) (ats := Lx.ats x s) (n := s.size) (t := s.data.toList) rfl hat s.size (Nat.le_refl _) 0 (Nat.zero_le _) u hu
    simpa using this
  · intro c hc
    rw [e2, hP] at hc
    obtain ⟨u, hu, rfl⟩ := List.mem_map.1 hc
    have := Lx.tab_tlen (x := x) (put := Lx.putT most.toNat) (ats := Lx.ats x s) (n := s.size) (fun l t y h => Lx.putT_mem h) s.size 0 u hu
    show (u.map (·.2)).length ≤ 64
    rw [List.length_map]
    omega
  · intro i c d hc hd
    rw [e2, hP] at hc hd
    obtain ⟨h1, rfl⟩ := List.getElem?_eq_some_iff.1 hc
    obtain ⟨h2, rfl⟩ := List.getElem?_eq_some_iff.1 hd
    unfold Lx.AscT Lx.Asc at hasc
    rw [List.pairwise_iff_getElem] at hasc hdiff
    exact ⟨Lx.rb_weight (hasc i (i + 1) h1 h2 (by omega)), fun e => hdiff i (i + 1) h1 h2 (by omega) e.symm⟩
theorem Lx.cutsR_none {x : Lx.Lexicon} {s : ByteArray} {most : Int} (h : Lx.cutsN x s most ≠ 0) : Lx.cutsR x s most = [] := by unfold Lx.cutsR; rw [if_neg h]
/-- the sounds and the weight of the first k forms -/
theorem Lx.saidAll_succ {x : Lx.Lexicon} {l : List Lx.Form} {k : Nat} {f : Lx.Form} (h : l[k]? = some f) : Lx.saidAll x (l.take (k + 1)) = Lx.saidAll x (l.take k) ++ (Lx.saidV x f).data.toList := by
  obtain ⟨hb, rfl⟩ := List.getElem?_eq_some_iff.1 h
  unfold Lx.saidAll
  rw [List.take_succ_eq_append_getElem hb, List.flatMap_append]
  simp
theorem Lx.heavyAll_succ {x : Lx.Lexicon} {l : List Lx.Form} {k : Nat} {f : Lx.Form} (h : l[k]? = some f) : Lx.heavyAll x (l.take (k + 1)) = Lx.heavyAll x (l.take k) + Lx.heavyV x f := by
  obtain ⟨hb, rfl⟩ := List.getElem?_eq_some_iff.1 h
  unfold Lx.heavyAll
  rw [List.take_succ_eq_append_getElem hb, List.map_append, List.sum_append]
  simp
theorem Lx.saidAll_le {x : Lx.Lexicon} (l : List Lx.Form) (k : Nat) : (Lx.saidAll x (l.take k)).length ≤ (Lx.saidAll x l).length := by
  have e : Lx.saidAll x l = Lx.saidAll x (l.take k) ++ Lx.saidAll x (l.drop k) := by
    unfold Lx.saidAll
    rw [← List.flatMap_append, List.take_append_drop]
  rw [e, List.length_append]
  omega
/-- an operation whose guard does not hold -/
theorem wpOp_idle {P : Program} {ops : Array Oper} {Q : Exit → Act → World → Prop} {i : Nat} {o : Oper} {K : Act → World → Prop} {a : Act} {w : World} (ho : ops[i]? = some o) (hg : Region.wanted o (yielded ops a.tmps) = false) (h : K (a.put o.dst undef) w) : wpOp P ops Q i K a w := by
  unfold wpOp
  rw [ho]
  simp only [hg]
  exact h
theorem unwanted_of {ops : Array Oper} {t : Array Value} {o : Oper} {g d : Nat} {b c : Bool} (hg : o.guard = some (g, b)) (hx : (ops[g]?).bind (·.dst) = some d) (h : t[d]? = some (.bool c)) (hb : c ≠ b) : Region.wanted o (yielded ops t) = false := by
  simp [Region.wanted, hg, yielded, hx, h, hb]
end Go.Proofs.YtpmfjndbckblfaaDoor
