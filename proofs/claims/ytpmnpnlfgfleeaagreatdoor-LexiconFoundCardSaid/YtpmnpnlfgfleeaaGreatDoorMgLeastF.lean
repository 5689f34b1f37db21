/- lexicon.Least, ostraconref05.Least. Made by gen_leastf.py. -/
import Derived.Test.YtpmnpnlfgfleeaaGreatDoorMgLeast
namespace Go.Proofs.YtpmnpnlfgfleeaaGreatDoor
open Go.RowKit

theorem Lx.withV_fits {x : Lx.Lexicon} {s : ByteArray} (h : Lx.checkV x = 0) : ∀ f ∈ Lx.withV x s, Lx.FitsC x f := by
  intro f hf
  unfold Lx.withV Lx.withL at hf
  rw [List.mem_map] at hf
  obtain ⟨m, hm, rfl⟩ := hf
  exact (Lx.matchesV_fits h m (List.mem_filter.1 hm).1).form
def Lx.leastN (x : Lx.Lexicon) (s : ByteArray) : Int := if Lx.speechV x s ≠ 0 then Lx.speechV x s else if (Lx.withV x s).isEmpty then 3 else 0
def Lx.leastR (x : Lx.Lexicon) (s : ByteArray) : Lx.Form := if Lx.leastN x s = 0 then (match Lx.withV x s with
  | f0 :: r => Lx.leastL x f0 r
  | [] => ⟨0, 0, []⟩) else ⟨0, 0, []⟩
theorem Lx.leastN_bad {x : Lx.Lexicon} {s : ByteArray} (h : Lx.speechV x s ≠ 0) : Lx.leastN x s = Lx.speechV x s ∧ Lx.leastR x s = ⟨0, 0, []⟩ := by
  have e : Lx.leastN x s = Lx.speechV x s := by unfold Lx.leastN; rw [if_pos h]
  exact ⟨e, by unfold Lx.leastR; rw [e, if_neg h]⟩
theorem Lx.leastN_none {x : Lx.Lexicon} {s : ByteArray} (h : Lx.speechV x s = 0) (h2 : Lx.withV x s = []) : Lx.leastN x s = 3 ∧ Lx.leastR x s = ⟨0, 0, []⟩ := by
  have e : Lx.leastN x s = 3 := by unfold Lx.leastN; rw [if_neg (by simp [h]), h2]; rfl
  exact ⟨e, by unfold Lx.leastR; rw [e]; rfl⟩
theorem Lx.leastN_good {x : Lx.Lexicon} {s : ByteArray} {f0 : Lx.Form} {r : List Lx.Form} (h : Lx.speechV x s = 0) (h2 : Lx.withV x s = f0 :: r) : Lx.leastN x s = 0 ∧ Lx.leastR x s = Lx.leastL x f0 r := by
  have e : Lx.leastN x s = 0 := by unfold Lx.leastN; rw [if_neg (by simp [h]), h2]; rfl
  exact ⟨e, by unfold Lx.leastR; rw [e, if_pos rfl, h2]⟩
structure RlR (T0 : Array Value) (W0 : World) (xv : Value) (bx b1 o1 n c0 k bb : Nat) (f m : Lx.Form) (sf sm : Value) (hf hm : Int) (d : Array Bool) (t : Array Value) (wc : World) : Prop where
  bel : Below W0.heap.size W0 wc
  siz : t.size = 48
  kp : ∀ i, i ∉ ([33, 34, 35, 36, 37, 38, 39, 40, 41, 42] : List Nat) → t[i]? = T0[i]?
  k2 : t[2]? = some (.pointer (some ⟨bx, 0, none⟩))
  k7 : t[7]? = some (.slice (some ⟨b1, o1, none⟩) n c0)
  k8 : t[8]? = some (.pointer (some ⟨bb, 0, none⟩))
  k9 : t[9]? = some (.int .i64 (k : Int))
  p0 : dn d 0 → t[33]? = some (xv)
  p1 : dn d 1 → t[34]? = some (.slice (some ⟨b1, o1, none⟩) n c0)
  p2 : dn d 2 → t[35]? = some (.int .i64 (k : Int))
  p3 : dn d 3 → t[36]? = some (.pointer (some ⟨b1, o1 + k * 3, none⟩))
  p4 : dn d 4 → t[37]? = some ((.agg #[.int .i64 f.entry, .int .i64 f.ending, sf]))
  p5 : dn d 5 → t[38]? = some (.int .i64 hf)
  p6 : dn d 6 → t[39]? = some (xv)
  p7 : dn d 7 → t[40]? = some ((.agg #[.int .i64 m.entry, .int .i64 m.ending, sm]))
  p8 : dn d 8 → t[41]? = some (.int .i64 hm)
  p9 : dn d 9 → t[42]? = some (.bool (decide (hf < hm)))
def RlI (T0 : Array Value) (W0 : World) (xv : Value) (bx b1 o1 n c0 k bb : Nat) (f m : Lx.Form) (sf sm : Value) (hf hm : Int) (d : Array Bool) (a : Act) (wc : World) : Prop := ∃ t : Array Value, a = ⟨t, []⟩ ∧ RlR T0 W0 xv bx b1 o1 n c0 k bb f m sf sm hf hm d t wc

set_option maxRecDepth 100000 in
set_option maxHeartbeats 4000000 in
theorem Least_any (vx : Value) (x : Lx.Lexicon) (s : ByteArray) (w : World) (hr : RdL w w.heap.size vx x) (hs : s.size ≤ 1000) :
    Calls Tryz.prog 17 #[vx, .string s] w (RetVI w (FormIn w (Lx.leastR x s)) (Lx.leastN x s)) := by
  have HSP : Hid (∀ (W : World), Below w.heap.size w W → Calls Tryz.prog 41 #[vx, .string s] W (RetIB (Lx.speechV x s) W)) := Lib.hid fun W hW => speech_any vx x s W ((hr.below hW).more hW.size) (by simp only [maxLen]; omega)
  have HWI : Hid (∀ (W : World), Below w.heap.size w W → Lx.checkV x = 0 → Calls Tryz.prog 42 #[vx, .string s] W (fun e w' => ∃ v, e = .returned v ∧ OwnG KForm 29 w' W.heap.size v (Lx.withV x s) ∧ Below W.heap.size W w')) :=
    Lib.hid fun W hW hc => with_any x s hc hs vx W ((hr.below hW).more hW.size)
  have HRL := Lib.hid hr
  obtain ⟨⟨v0, v1, v2, rfl, ⟨A0, c0, rfl, -⟩, ⟨A1, c1, rfl, -⟩, ⟨A2, c2, rfl, -⟩⟩, -, -, -⟩ := hr
  have cx : ∀ (W : World), W.heap[w.heap.size]? = some (.cells #[.slice A0 x.entries.length c0, .slice A1 x.endings.length c1, .slice A2 x.clitics.length c2] 26 (0, 0)) →
      W.cell? ⟨w.heap.size, 0, none⟩ = some (.slice A0 x.entries.length c0) ∧ W.cell? ⟨w.heap.size, 1, none⟩ = some (.slice A1 x.endings.length c1) ∧ W.cell? ⟨w.heap.size, 2, none⟩ = some (.slice A2 x.clitics.length c2) :=
    fun W h => ⟨by simp [World.cell?, h], by simp [World.cell?, h], by simp [World.cell?, h]⟩
  have CX := Lib.hid cx
  clear cx
  have hal : Below w.heap.size w ((w.alloc (.cells #[.slice A0 x.entries.length c0, .slice A1 x.endings.length c1, .slice A2 x.clitics.length c2] 26)).alloc (.cells #[.int .i64 0, .int .i64 0, .slice none 0 0] 29)) := ((Below.refl _ _).alloc (Nat.le_refl _) _).alloc (by simp) _
  have HNB : Hid (Lx.speechV x s ≠ 0 → Lx.leastN x s = Lx.speechV x s ∧ Lx.leastR x s = ⟨0, 0, []⟩) := Lib.hid Lx.leastN_bad
  have HNG : Hid (Lx.speechV x s = 0 → Lx.checkV x = 0) := Lib.hid fun h => (Lx.speech_parts h).1
  generalize hcv : Lx.speechV x s = cv at HSP HNB HNG
  have HCV := Lib.hid hcv
  clear hcv
  go_enter Tryz.func17, Tryz.ntmps17
  go_wp2_with fail
  refine (HSP.out _ hal).mono ?_
  rintro e1 w1 ⟨rfl, hb1⟩
  have hs1 : w.heap.size + 2 ≤ w1.heap.size := by have := hb1.size; simp at this; omega
  have HB1 := Lib.hid (hal.trans (hb1.mono (by simp; omega)))
  have HXw1 := Lib.hid ((hb1.block w.heap.size (by simp; omega)).trans (start_fst w (.cells #[.slice A0 x.entries.length c0, .slice A1 x.endings.length c1, .slice A2 x.clitics.length c2] 26) (.cells #[.int .i64 0, .int .i64 0, .slice none 0 0] 29)))
  have HRw1 := Lib.hid ((hb1.block (w.heap.size + 1) (by simp)).trans (start_res2 w (.cells #[.slice A0 x.entries.length c0, .slice A1 x.endings.length c1, .slice A2 x.clitics.length c2] 26) (.cells #[.int .i64 0, .int .i64 0, .slice none 0 0] 29)))
  clear hb1 hal
  by_cases hz : cv = 0
  · have hq : (cv == 0) = true := by simp [hz]
    have hq' : (cv != 0) = false := by simp [hz]
    have HC0 := Lib.hid (HNG.out hz)
    have HZ := Lib.hid hz
    obtain ⟨x0, x1, x2⟩ := CX.out w1 HXw1.out
    clear hz
    go_wp2_with fail
    refine (HWI.out w1 HB1.out HC0.out).mono ?_
    rintro e2 w2 ⟨v2, rfl, hog, hb2⟩
    have hs2 : w.heap.size + 2 ≤ w2.heap.size := by have := hb2.size; omega
    have hrd : RdG KForm w2 (fun b => b < w2.heap.size ∧ w.heap.size + 2 ≤ b) v2 (Lx.withV x s) := hog.rd.keep fun b hb => ⟨⟨hb.1, by omega⟩, rfl⟩
    obtain ⟨A2', c2', rfl⟩ := hrd.form
    have HRD := Lib.hid hrd
    have HB2 := Lib.hid (HB1.out.trans (hb2.mono HB1.out.size))
    have HXw2 := Lib.hid ((hb2.block w.heap.size (by omega)).trans HXw1.out)
    have HRw2 := Lib.hid ((hb2.block (w.heap.size + 1) (by omega)).trans HRw1.out)
    have hmx : (Lx.withV x s).length ≤ 9223372036854775807 := by
      obtain ⟨_, _, e, h1, h2, _⟩ := hrd
      omega
    have HFIT : Hid (∀ f ∈ Lx.withV x s, Lx.FitsC x f) := Lib.hid (Lx.withV_fits HC0.out)
    have HNE : Hid (Lx.withV x s = [] → Lx.leastN x s = 3 ∧ Lx.leastR x s = ⟨0, 0, []⟩) := Lib.hid (Lx.leastN_none (HCV.out.trans HZ.out))
    have HNG : Hid (∀ f0 r, Lx.withV x s = f0 :: r → Lx.leastN x s = 0 ∧ Lx.leastR x s = Lx.leastL x f0 r) := Lib.hid (fun f0 r => Lx.leastN_good (HCV.out.trans HZ.out))
    generalize hlv : Lx.withV x s = l at *
    clear hlv hog hb2 hrd x0 x1 x2
    obtain ⟨x0, x1, x2⟩ := CX.out w2 HXw2.out
    cases hl : l with
    | nil =>
      have HF := Lib.hid (HNE.out hl)
      subst hl
      have r0 : w2.cell? ⟨w.heap.size + 1, 0, none⟩ = some (.int .i64 0) := by simp [World.cell?, HRw2.out]
      have r1 : w2.cell? ⟨w.heap.size + 1, 1, none⟩ = some (.int .i64 0) := by simp [World.cell?, HRw2.out]
      have r2 : w2.cell? ⟨w.heap.size + 1, 2, none⟩ = some (.slice none 0 0) := by simp [World.cell?, HRw2.out]
      have z0 : w2.frozen? ⟨w.heap.size + 1, 0, none⟩ = false := by simp [World.frozen?, HRw2.out]
      have z1 : w2.frozen? ⟨w.heap.size + 1, 1, none⟩ = false := by simp [World.frozen?, HRw2.out]
      have z2 : w2.frozen? ⟨w.heap.size + 1, 2, none⟩ = false := by simp [World.frozen?, HRw2.out]
      have HB9 : Hid (Below w.heap.size w (((w2.setCell ⟨w.heap.size + 1, 0, none⟩ (.int .i64 0)).setCell ⟨w.heap.size + 1, 1, none⟩ (.int .i64 0)).setCell ⟨w.heap.size + 1, 2, none⟩ (.slice none 0 0))) := Lib.hid (((HB2.out.setCell (by simp) _).setCell (by simp) _).setCell (by simp) _)
      go_wp2_with fail
      refine bodyPost_ret (v := .tuple #[.agg #[.int .i64 0, .int .i64 0, .slice none 0 0], .int .i64 3]) (by simp [results, Tryz.results17, go_sem, r0, r1, r2]) rfl ⟨_, ret_vi HF.out.1.symm, ?_, HB9.out⟩
      rw [HF.out.2]
      exact ⟨_, rfl, none, 0, rfl, by simp, by simp, fun h => absurd h (by simp)⟩
    | cons f0 r =>
      have HF := Lib.hid (HNG.out f0 r hl)
      have hq0 : ((l.length : Int) == 0) = false := by rw [hl]; simp; omega
      rw [← hl]
      have HL := Lib.hid hl
      clear hl
      have HCALL : Hid (∀ (W : World) (a b : Lx.Form) (va vb : Value), a ∈ l → b ∈ l → Below w2.heap.size w2 W → RdF W W.heap.size va a → RdF W W.heap.size vb b → Calls Tryz.prog 44 #[va, vb, .pointer (some ⟨w.heap.size, 0, none⟩)] W (RetIB (Lib.compareInt (Lx.heavyV x a) (Lx.heavyV x b)) W)) :=
        Lib.hid fun W a b va vb ha hb hW hra hrb => Least1_any va vb a b x w.heap.size _ W ((HRL.out.below (HB2.out.trans (hW.mono HB2.out.size))).more (HB2.out.trans (hW.mono HB2.out.size)).size) ⟨_, _, _, rfl, (hW.block _ (by omega)).trans HXw2.out⟩ hra hrb HC0.out (HFIT.out a ha) (HFIT.out b hb)
      go_wp2_with fail
      refine (minFunc_any (.pointer (some ⟨w.heap.size, 0, none⟩)) x l f0 r HL.out _ w2 (fun b => b < w2.heap.size ∧ w.heap.size + 2 ≤ b) (fun b hb => hb.1) HRD.out HCALL.out).mono ?_
      rintro e5 w5 ⟨v5, rfl, ⟨s5, rfl, hr5⟩, hb5⟩
      obtain ⟨A5, c5, rfl, -⟩ := id hr5
      have hs5 := hb5.size
      have HRX5 := Lib.hid hr5
      have HB5 := Lib.hid (HB2.out.trans (hb5.mono HB2.out.size))
      have HRw5 := Lib.hid ((hb5.block (w.heap.size + 1) (by omega)).trans HRw2.out)
      clear hb5 hr5
      have r0 : w5.cell? ⟨w.heap.size + 1, 0, none⟩ = some (.int .i64 0) := by simp [World.cell?, HRw5.out]
      have r1 : w5.cell? ⟨w.heap.size + 1, 1, none⟩ = some (.int .i64 0) := by simp [World.cell?, HRw5.out]
      have r2 : w5.cell? ⟨w.heap.size + 1, 2, none⟩ = some (.slice none 0 0) := by simp [World.cell?, HRw5.out]
      have z0 : w5.frozen? ⟨w.heap.size + 1, 0, none⟩ = false := by simp [World.frozen?, HRw5.out]
      have z1 : w5.frozen? ⟨w.heap.size + 1, 1, none⟩ = false := by simp [World.frozen?, HRw5.out]
      have z2 : w5.frozen? ⟨w.heap.size + 1, 2, none⟩ = false := by simp [World.frozen?, HRw5.out]
      have HB9 : Hid (Below w.heap.size w (((w5.setCell ⟨w.heap.size + 1, 0, none⟩ (.int .i64 (Lx.leastL x f0 r).entry)).setCell ⟨w.heap.size + 1, 1, none⟩ (.int .i64 (Lx.leastL x f0 r).ending)).setCell ⟨w.heap.size + 1, 2, none⟩ (.slice A5 (Lx.leastL x f0 r).clitics.length c5))) := Lib.hid (((HB5.out.setCell (by simp) _).setCell (by simp) _).setCell (by simp) _)
      have HR9 : Hid (RdX (((w5.setCell ⟨w.heap.size + 1, 0, none⟩ (.int .i64 (Lx.leastL x f0 r).entry)).setCell ⟨w.heap.size + 1, 1, none⟩ (.int .i64 (Lx.leastL x f0 r).ending)).setCell ⟨w.heap.size + 1, 2, none⟩ (.slice A5 (Lx.leastL x f0 r).clitics.length c5)) (fun b => b < (((w5.setCell ⟨w.heap.size + 1, 0, none⟩ (.int .i64 (Lx.leastL x f0 r).entry)).setCell ⟨w.heap.size + 1, 1, none⟩ (.int .i64 (Lx.leastL x f0 r).ending)).setCell ⟨w.heap.size + 1, 2, none⟩ (.slice A5 (Lx.leastL x f0 r).clitics.length c5)).heap.size ∧ w.heap.size ≤ b) 1 encInt (.slice A5 (Lx.leastL x f0 r).clitics.length c5) (Lx.leastL x f0 r).clitics) := Lib.hid (HRX5.out.keep fun b hb => ⟨⟨by simp [World.setCell]; omega, by omega⟩, by
        have h1 : ¬ w.heap.size + 1 = b := by omega
        simp [World.setCell, Array.getElem?_modify, h1]⟩)
      go_wp2_with fail
      refine bodyPost_ret (v := .tuple #[.agg #[.int .i64 (Lx.leastL x f0 r).entry, .int .i64 (Lx.leastL x f0 r).ending, .slice A5 (Lx.leastL x f0 r).clitics.length c5], .int .i64 0]) (by simp [results, Tryz.results17, go_sem, r0, r1, r2]) rfl ⟨_, ret_vi HF.out.1.symm, ?_, HB9.out⟩
      rw [HF.out.2]
      exact ⟨_, rfl, HR9.out⟩
  · have hq : (cv == 0) = false := by simp [hz]
    have hq' : (cv != 0) = true := by simp [hz]
    have HF := Lib.hid (HNB.out hz)
    have r0 : w1.cell? ⟨w.heap.size + 1, 0, none⟩ = some (.int .i64 0) := by simp [World.cell?, HRw1.out]
    have r1 : w1.cell? ⟨w.heap.size + 1, 1, none⟩ = some (.int .i64 0) := by simp [World.cell?, HRw1.out]
    have r2 : w1.cell? ⟨w.heap.size + 1, 2, none⟩ = some (.slice none 0 0) := by simp [World.cell?, HRw1.out]
    have z0 : w1.frozen? ⟨w.heap.size + 1, 0, none⟩ = false := by simp [World.frozen?, HRw1.out]
    have z1 : w1.frozen? ⟨w.heap.size + 1, 1, none⟩ = false := by simp [World.frozen?, HRw1.out]
    have z2 : w1.frozen? ⟨w.heap.size + 1, 2, none⟩ = false := by simp [World.frozen?, HRw1.out]
    have HB9 : Hid (Below w.heap.size w (((w1.setCell ⟨w.heap.size + 1, 0, none⟩ (.int .i64 0)).setCell ⟨w.heap.size + 1, 1, none⟩ (.int .i64 0)).setCell ⟨w.heap.size + 1, 2, none⟩ (.slice none 0 0))) := Lib.hid (((HB1.out.setCell (by simp) _).setCell (by simp) _).setCell (by simp) _)
    clear hz
    go_wp2_with fail
    refine bodyPost_ret (v := .tuple #[.agg #[.int .i64 0, .int .i64 0, .slice none 0 0], .int .i64 cv]) (by simp [results, Tryz.results17, go_sem, r0, r1, r2]) rfl ⟨_, ret_vi HF.out.1.symm, ?_, HB9.out⟩
    rw [HF.out.2]
    exact ⟨_, rfl, none, 0, rfl, by simp, by simp, fun h => absurd h (by simp)⟩


end Go.Proofs.YtpmnpnlfgfleeaaGreatDoor
