/- ostraconref05.speech, lexicon.With, ostraconref05.With. Made by gen_withf.py. -/
import Derived.Test.YtpmfjndbckblfaaDoorMgRWith
import Derived.Test.YtpmfjndbckblfaaDoorMgWith
import Derived.Test.YtpmfjndbckblfaaDoorMgCuts
import Derived.Test.YtpmfjndbckblfaaDoorMgRCheck
namespace Go.Proofs.YtpmfjndbckblfaaDoor
open Go.RowKit

def Lx.withN (x : Lx.Lexicon) (s : ByteArray) : Int := if Lx.speechV x s ≠ 0 then Lx.speechV x s else if 1000 < (Lx.withV x s).length then 2 else 0
def Lx.withR (x : Lx.Lexicon) (s : ByteArray) : List Lx.Form := if Lx.withN x s = 0 then Lx.withV x s else []
theorem Lx.speech_parts {x : Lx.Lexicon} {s : ByteArray} (h : Lx.speechV x s = 0) : Lx.checkV x = 0 ∧ Lx.soundsB s 64 = true := by
  unfold Lx.speechV at h
  split at h
  · rename_i q; exact absurd h q
  · rename_i q
    refine ⟨by simpa using q, ?_⟩
    cases hs : Lx.soundsB s 64
    · rw [hs] at h; simp at h
    · rfl
theorem Lx.sounds_size {s : ByteArray} (h : Lx.soundsB s 64 = true) : 1 ≤ s.size ∧ s.size ≤ 64 ∧ Lx.allL s = true := by
  unfold Lx.soundsB at h
  simp only [Bool.and_eq_true, decide_eq_true_eq] at h
  exact ⟨h.1.1, by omega, h.2⟩
theorem Lx.with_rwith {x : Lx.Lexicon} {s : ByteArray} (h : Lx.checkV x = 0) : Lx.withV x s = Lx.rwithV x s.data.toList := by
  have e := Lx.with_law (x := x) (s := s) (n := s.size) h (Nat.le_refl _)
  have e2 : Lx.part s 0 s.size = s.data.toList := by
    unfold Lx.part
    rw [List.drop_zero, Nat.sub_zero]
    exact List.take_of_length_le (Nat.le_refl _)
  rw [e2] at e
  exact e
theorem Lx.withN_bad {x : Lx.Lexicon} {s : ByteArray} (h : Lx.speechV x s ≠ 0) : Lx.withN x s = Lx.speechV x s ∧ Lx.withR x s = [] := by
  have e : Lx.withN x s = Lx.speechV x s := by unfold Lx.withN; rw [if_pos h]
  exact ⟨e, by unfold Lx.withR; rw [e, if_neg h]⟩
theorem Lx.withN_many {x : Lx.Lexicon} {s : ByteArray} (h : Lx.speechV x s = 0) (h2 : 1000 < (Lx.withV x s).length) : Lx.withN x s = 2 ∧ Lx.withR x s = [] := by
  have e : Lx.withN x s = 2 := by unfold Lx.withN; rw [if_neg (by simp [h]), if_pos h2]
  exact ⟨e, by unfold Lx.withR; rw [e]; rfl⟩
theorem Lx.withN_good {x : Lx.Lexicon} {s : ByteArray} (h : Lx.speechV x s = 0) (h2 : ¬ 1000 < (Lx.withV x s).length) : Lx.withN x s = 0 ∧ Lx.withR x s = Lx.withV x s := by
  have e : Lx.withN x s = 0 := by unfold Lx.withN; rw [if_neg (by simp [h]), if_neg h2]
  exact ⟨e, by unfold Lx.withR; rw [e]; rfl⟩
theorem ret_vi {v : Value} {n m : Int} (h : n = m) : Ending.returned (.tuple #[v, .int .i64 n]) = .returned (.tuple #[v, .int .i64 m]) := by rw [h]
def FormsIn (w : World) (l : List Lx.Form) (w' : World) (v : Value) : Prop := RdG KForm w' (fun b => b < w'.heap.size ∧ w.heap.size ≤ b) v l

set_option maxRecDepth 100000 in
set_option maxHeartbeats 1000000 in
theorem rspeech_any (v : Value) (x : Lx.Lexicon) (s : ByteArray) (w : World) (hr : RdL w w.heap.size v x) (hs : s.size ≤ maxLen) : Calls Tryd.prog 70 #[v, .string s] w (RetIB (Lx.speechV x s) w) := by
  have HCK : Hid (∀ (W : World), Below w.heap.size w W → Calls Tryd.prog 15 #[v] W (RetIB (Lx.checkV x) W)) := Lib.hid fun W hW => rCheck_any v x W ((hr.below hW).more hW.size)
  obtain ⟨⟨v0, v1, v2, rfl, ⟨A0, c0, rfl, -⟩, ⟨A1, c1, rfl, -⟩, ⟨A2, c2, rfl, -⟩⟩, -, -, -⟩ := hr
  generalize hcv : Lx.checkV x = cv at HCK
  have HV := Lib.hid hcv
  clear hcv
  go_enter Tryd.func70, Tryd.ntmps70
  go_wp2_with fail
  refine (HCK.out _ ((Below.refl _ _).alloc (Nat.le_refl _) _)).mono ?_
  rintro e1 w1 ⟨rfl, hb1⟩
  have HB1 := Lib.hid (((Below.refl w.heap.size w).alloc (Nat.le_refl _) _).trans (hb1.mono (by simp)))
  clear hb1
  by_cases hz : cv = 0
  · have hq : (cv == 0) = true := by simp [hz]
    have hq' : (cv != 0) = false := by simp [hz]
    have HZ := Lib.hid hz
    clear hz
    cases hso : Lx.soundsB s 64
    · have HF : Hid (Lx.speechV x s = 4) := Lib.hid (by unfold Lx.speechV; rw [HV.out, HZ.out, hso]; rfl)
      have HS := Lib.hid hso
      clear hso
      go_wp2_with fail
      refine (rsounds_any _ _ _ hs).mono ?_
      rw [HS.out]
      rintro e2 w2 ⟨rfl, rfl⟩
      go_wp2_with fail
      go_ret
      exact ⟨ret_int HF.out.symm, HB1.out⟩
    · have HF : Hid (Lx.speechV x s = 0) := Lib.hid (by unfold Lx.speechV; rw [HV.out, HZ.out, hso]; rfl)
      have HS := Lib.hid hso
      clear hso
      go_wp2_with fail
      refine (rsounds_any _ _ _ hs).mono ?_
      rw [HS.out]
      rintro e2 w2 ⟨rfl, rfl⟩
      go_wp2_with fail
      go_ret
      exact ⟨ret_int HF.out.symm, HB1.out⟩
  · have hq : (cv == 0) = false := by simp [hz]
    have hq' : (cv != 0) = true := by simp [hz]
    have HF : Hid (Lx.speechV x s = cv) := Lib.hid (by unfold Lx.speechV; rw [HV.out, if_pos hz])
    clear hz
    go_wp2_with fail
    go_ret
    exact ⟨ret_int HF.out.symm, HB1.out⟩

set_option maxRecDepth 100000 in
set_option maxHeartbeats 2000000 in
theorem With_any (vx : Value) (x : Lx.Lexicon) (s : ByteArray) (w : World) (hr : RdL w w.heap.size vx x) (hs : s.size ≤ 1000) :
    Calls Tryd.prog 36 #[vx, .string s] w (RetVI w (FormsIn w (Lx.withR x s)) (Lx.withN x s)) := by
  have HSP : Hid (∀ (W : World), Below w.heap.size w W → Calls Tryd.prog 64 #[vx, .string s] W (RetIB (Lx.speechV x s) W)) := Lib.hid fun W hW => speech_any vx x s W ((hr.below hW).more hW.size) (by simp only [maxLen]; omega)
  have HWI : Hid (∀ (W : World), Below w.heap.size w W → Lx.checkV x = 0 → Calls Tryd.prog 75 #[vx, .string s] W (fun e w' => ∃ v, e = .returned v ∧ OwnG KForm 29 w' W.heap.size v (Lx.withV x s) ∧ Below W.heap.size W w')) :=
    Lib.hid fun W hW hc => with_any x s hc hs vx W ((hr.below hW).more hW.size)
  obtain ⟨⟨v0, v1, v2, rfl, ⟨A0, c0, rfl, -⟩, ⟨A1, c1, rfl, -⟩, ⟨A2, c2, rfl, -⟩⟩, -, -, -⟩ := hr
  have cx : ∀ (W : World), W.heap[w.heap.size]? = some (.cells #[.slice A0 x.entries.length c0, .slice A1 x.endings.length c1, .slice A2 x.clitics.length c2] 26 (0, 0)) →
      W.cell? ⟨w.heap.size, 0, none⟩ = some (.slice A0 x.entries.length c0) ∧ W.cell? ⟨w.heap.size, 1, none⟩ = some (.slice A1 x.endings.length c1) ∧ W.cell? ⟨w.heap.size, 2, none⟩ = some (.slice A2 x.clitics.length c2) :=
    fun W h => ⟨by simp [World.cell?, h], by simp [World.cell?, h], by simp [World.cell?, h]⟩
  have CX := Lib.hid cx
  clear cx
  have hal : Below w.heap.size w (w.alloc (.cells #[.slice A0 x.entries.length c0, .slice A1 x.endings.length c1, .slice A2 x.clitics.length c2] 26)) := (Below.refl _ _).alloc (Nat.le_refl _) _
  have HNB : Hid (Lx.speechV x s ≠ 0 → Lx.withN x s = Lx.speechV x s ∧ Lx.withR x s = []) := Lib.hid Lx.withN_bad
  have HNG : Hid (Lx.speechV x s = 0 → Lx.checkV x = 0) := Lib.hid fun h => (Lx.speech_parts h).1
  generalize hcv : Lx.speechV x s = cv at HSP HNB HNG
  have HCV := Lib.hid hcv
  clear hcv
  go_enter Tryd.func36, Tryd.ntmps36
  go_wp2_with fail
  refine (HSP.out _ hal).mono ?_
  rintro e1 w1 ⟨rfl, hb1⟩
  have HB1 := Lib.hid (hal.trans (hb1.mono (by simp)))
  have hs1 : w.heap.size + 1 ≤ w1.heap.size := by have := hb1.size; simp at this; omega
  have hx1 := (hb1.block w.heap.size (by simp)).trans (heap_alloc_new _ _)
  clear hb1 hal
  by_cases hz : cv = 0
  · have hq : (cv == 0) = true := by simp [hz]
    have hq' : (cv != 0) = false := by simp [hz]
    have HC0 := Lib.hid (HNG.out hz)
    have HZ := Lib.hid hz
    obtain ⟨x0, x1, x2⟩ := CX.out w1 hx1
    clear hz hx1
    go_wp2_with fail
    refine (HWI.out w1 HB1.out HC0.out).mono ?_
    rintro e2 w2 ⟨v2, rfl, hog, hb2⟩
    have hrd : RdG KForm w2 (fun b => b < w2.heap.size ∧ w.heap.size ≤ b) v2 (Lx.withV x s) := hog.rd.keep fun b hb => ⟨⟨hb.1, by omega⟩, rfl⟩
    obtain ⟨A2', c2', rfl⟩ := hrd.form
    have HRD := Lib.hid hrd
    have HB2 := Lib.hid (HB1.out.trans (hb2.mono HB1.out.size))
    have hmx : (Lx.withV x s).length ≤ 9223372036854775807 := by
      obtain ⟨_, _, e, h1, h2, _⟩ := hrd
      omega
    clear hog hb2 hrd x0 x1 x2
    by_cases hm : 1000 < (Lx.withV x s).length
    · have HF := Lib.hid (Lx.withN_many (HCV.out.trans HZ.out) hm)
      have hmI : (1000 : Int) < ((Lx.withV x s).length : Int) := by omega
      clear hm
      go_wp2_with fail
      go_ret2
      exact ⟨_, ret_vi HF.out.1.symm, by rw [HF.out.2]; exact RdG.nil _ _, HB2.out⟩
    · have HF := Lib.hid (Lx.withN_good (HCV.out.trans HZ.out) hm)
      have hmI : ¬ (1000 : Int) < ((Lx.withV x s).length : Int) := by omega
      clear hm
      go_wp2_with fail
      go_ret2
      exact ⟨_, ret_vi HF.out.1.symm, by rw [HF.out.2]; exact HRD.out, HB2.out⟩
  · have hq : (cv == 0) = false := by simp [hz]
    have hq' : (cv != 0) = true := by simp [hz]
    have HF := Lib.hid (HNB.out hz)
    clear hz hx1
    go_wp2_with fail
    go_ret2
    exact ⟨_, ret_vi HF.out.1.symm, by rw [HF.out.2]; exact RdG.nil _ _, HB1.out⟩

set_option maxRecDepth 100000 in
set_option maxHeartbeats 2000000 in
theorem rWith_any (vx : Value) (x : Lx.Lexicon) (s : ByteArray) (w : World) (hr : RdL w w.heap.size vx x) (hs : s.size ≤ 1000) :
    Calls Tryd.prog 37 #[vx, .string s] w (RetVI w (FormsIn w (Lx.withR x s)) (Lx.withN x s)) := by
  have HSP : Hid (∀ (W : World), Below w.heap.size w W → Calls Tryd.prog 70 #[vx, .string s] W (RetIB (Lx.speechV x s) W)) := Lib.hid fun W hW => rspeech_any vx x s W ((hr.below hW).more hW.size) (by simp only [maxLen]; omega)
  have HWI : Hid (∀ (W : World), Below w.heap.size w W → Lx.checkV x = 0 → Calls Tryd.prog 71 #[vx, .string s] W (fun e w' => ∃ v, e = .returned v ∧ OwnG KForm 29 w' W.heap.size v (Lx.withV x s) ∧ Below W.heap.size W w')) :=
    Lib.hid fun W hW hc => by rw [Lx.with_rwith hc]; exact rwith_any x s hc hs vx W ((hr.below hW).more hW.size)
  obtain ⟨⟨v0, v1, v2, rfl, ⟨A0, c0, rfl, -⟩, ⟨A1, c1, rfl, -⟩, ⟨A2, c2, rfl, -⟩⟩, -, -, -⟩ := hr
  have cx : ∀ (W : World), W.heap[w.heap.size]? = some (.cells #[.slice A0 x.entries.length c0, .slice A1 x.endings.length c1, .slice A2 x.clitics.length c2] 26 (0, 0)) →
      W.cell? ⟨w.heap.size, 0, none⟩ = some (.slice A0 x.entries.length c0) ∧ W.cell? ⟨w.heap.size, 1, none⟩ = some (.slice A1 x.endings.length c1) ∧ W.cell? ⟨w.heap.size, 2, none⟩ = some (.slice A2 x.clitics.length c2) :=
    fun W h => ⟨by simp [World.cell?, h], by simp [World.cell?, h], by simp [World.cell?, h]⟩
  have CX := Lib.hid cx
  clear cx
  have hal : Below w.heap.size w (w.alloc (.cells #[.slice A0 x.entries.length c0, .slice A1 x.endings.length c1, .slice A2 x.clitics.length c2] 26)) := (Below.refl _ _).alloc (Nat.le_refl _) _
  have HNB : Hid (Lx.speechV x s ≠ 0 → Lx.withN x s = Lx.speechV x s ∧ Lx.withR x s = []) := Lib.hid Lx.withN_bad
  have HNG : Hid (Lx.speechV x s = 0 → Lx.checkV x = 0) := Lib.hid fun h => (Lx.speech_parts h).1
  generalize hcv : Lx.speechV x s = cv at HSP HNB HNG
  have HCV := Lib.hid hcv
  clear hcv
  go_enter Tryd.func37, Tryd.ntmps37
  go_wp2_with fail
  refine (HSP.out _ hal).mono ?_
  rintro e1 w1 ⟨rfl, hb1⟩
  have HB1 := Lib.hid (hal.trans (hb1.mono (by simp)))
  have hs1 : w.heap.size + 1 ≤ w1.heap.size := by have := hb1.size; simp at this; omega
  have hx1 := (hb1.block w.heap.size (by simp)).trans (heap_alloc_new _ _)
  clear hb1 hal
  by_cases hz : cv = 0
  · have hq : (cv == 0) = true := by simp [hz]
    have hq' : (cv != 0) = false := by simp [hz]
    have HC0 := Lib.hid (HNG.out hz)
    have HZ := Lib.hid hz
    obtain ⟨x0, x1, x2⟩ := CX.out w1 hx1
    clear hz hx1
    go_wp2_with fail
    refine (HWI.out w1 HB1.out HC0.out).mono ?_
    rintro e2 w2 ⟨v2, rfl, hog, hb2⟩
    have hrd : RdG KForm w2 (fun b => b < w2.heap.size ∧ w.heap.size ≤ b) v2 (Lx.withV x s) := hog.rd.keep fun b hb => ⟨⟨hb.1, by omega⟩, rfl⟩
    obtain ⟨A2', c2', rfl⟩ := hrd.form
    have HRD := Lib.hid hrd
    have HB2 := Lib.hid (HB1.out.trans (hb2.mono HB1.out.size))
    have hmx : (Lx.withV x s).length ≤ 9223372036854775807 := by
      obtain ⟨_, _, e, h1, h2, _⟩ := hrd
      omega
    clear hog hb2 hrd x0 x1 x2
    by_cases hm : 1000 < (Lx.withV x s).length
    · have HF := Lib.hid (Lx.withN_many (HCV.out.trans HZ.out) hm)
      have hmI : (1000 : Int) < ((Lx.withV x s).length : Int) := by omega
      clear hm
      go_wp2_with fail
      go_ret2
      exact ⟨_, ret_vi HF.out.1.symm, by rw [HF.out.2]; exact RdG.nil _ _, HB2.out⟩
    · have HF := Lib.hid (Lx.withN_good (HCV.out.trans HZ.out) hm)
      have hmI : ¬ (1000 : Int) < ((Lx.withV x s).length : Int) := by omega
      clear hm
      go_wp2_with fail
      go_ret2
      exact ⟨_, ret_vi HF.out.1.symm, by rw [HF.out.2]; exact HRD.out, HB2.out⟩
  · have hq : (cv == 0) = false := by simp [hz]
    have hq' : (cv != 0) = true := by simp [hz]
    have HF := Lib.hid (HNB.out hz)
    clear hz hx1
    go_wp2_with fail
    go_ret2
    exact ⟨_, ret_vi HF.out.1.symm, by rw [HF.out.2]; exact RdG.nil _ _, HB1.out⟩
end Go.Proofs.YtpmfjndbckblfaaDoor
