/- lexicon.Least, ostraconref05.Least. Made by gen_leastf.py. -/
import Derived.Test.YtpmfjndbckblfaaDoorLeast
namespace Go.Proofs.YtpmfjndbckblfaaDoor
open Go.RowKit

theorem Lx.withV_fits {x : Lx.Lexicon} {s : ByteArray} (h : Lx.checkV x = 0) : ∀ f ∈ Lx.withV x s, Lx.FitsC x f := by
  intro f hf
  unfold Lx.withV Lx.withL at hf
  rw [List.mem_map] at hf
  obtain ⟨m, hm, rfl⟩ := hf
  exact (Lx.matchesV_fits h m (List.mem_filter.1 hm).1).form
def Lx.leastN (x : Lx.Lexicon) (s : ByteArray) : Int := if Lx.speechV x s ≠ 0 then Lx.speechV x s else if (Lx.withV x s).isEmpty then 3 else 0
def Lx.leastR (x : Lx.Lexicon) (s : ByteArray) : Lx.Form := if Lx.leastN x s = 0 then (match Lx.withV x s with
  | f0 :: r => Lx.leastL x f0 r
  | [] => ⟨0, 0, []⟩) else ⟨0, 0, []⟩
theorem Lx.leastN_bad {x : Lx.Lexicon} {s : ByteArray} (h : Lx.speechV x s ≠ 0) : Lx.leastN x s = Lx.speechV x s ∧ Lx.leastR x s = ⟨0, 0, []⟩ := by
  have e : Lx.leastN x s = Lx.speechV x s := by unfold Lx.leastN; rw [if_pos h]
  exact ⟨e, by unfold Lx.leastR; rw [e, if_neg h]⟩
theorem Lx.leastN_none {x : Lx.Lexicon} {s : ByteArray} (h : Lx.speechV x s = 0) (h2 : Lx.withV x s = []) : Lx.leastN x s = 3 ∧ Lx.leastR x s = ⟨0, 0, []⟩ := by
  have e : Lx.leastN x s = 3 := by unfold Lx.leastN; rw [if_neg (by simp [h]), h2]; rfl
  exact ⟨e, by unfold Lx.leastR; rw [e]; rfl⟩
theorem Lx.leastN_good {x : Lx.Lexicon} {s : ByteArray} {f0 : Lx.Form} {r : List Lx.Form} (h : Lx.speechV x s = 0) (h2 : Lx.withV x s = f0 :: r) : Lx.leastN x s = 0 ∧ Lx.leastR x s = Lx.leastL x f0 r := by
  have e : Lx.leastN x s = 0 := by unfold Lx.leastN; rw [if_neg (by simp [h]), h2]; rfl
  exact ⟨e, by unfold Lx.leastR; rw [e, if_pos rfl, h2]⟩
structure RlR (T0 : Array Value) (W0 : World) (xv : Value) (bx b1 o1 n c0 k bb : Nat) (f m : Lx.Form) (sf sm : Value) (hf hm : Int) (d : Array Bool) (t : Array Value) (wc : World) : Prop where
  bel : Below W0.heap.size W0 wc
  siz : t.size = 48
  kp : ∀ i, i ∉ ([33, 34, 35, 36, 37, 38, 39, 40, 41, 42] : List Nat) → t[i]? = T0[i]?
  k2 : t[2]? = some (.pointer (some ⟨bx, 0, none⟩))
  k7 : t[7]? = some (.slice (some ⟨b1, o1, none⟩) n c0)
  k8 : t[8]? = some (.pointer (some ⟨bb, 0, none⟩))
  k9 : t[9]? = some (.int .i64 (k : Int))
  p0 : dn d 0 → t[33]? = some (xv)
  p1 : dn d 1 → t[34]? = some (.slice (some ⟨b1, o1, none⟩) n c0)
  p2 : dn d 2 → t[35]? = some (.int .i64 (k : Int))
  p3 : dn d 3 → t[36]? = some (.pointer (some ⟨b1, o1 + k * 3, none⟩))
  p4 : dn d 4 → t[37]? = some ((.agg #[.int .i64 f.entry, .int .i64 f.ending, sf]))
  p5 : dn d 5 → t[38]? = some (.int .i64 hf)
  p6 : dn d 6 → t[39]? = some (xv)
  p7 : dn d 7 → t[40]? = some ((.agg #[.int .i64 m.entry, .int .i64 m.ending, sm]))
  p8 : dn d 8 → t[41]? = some (.int .i64 hm)
  p9 : dn d 9 → t[42]? = some (.bool (decide (hf < hm)))
def RlI (T0 : Array Value) (W0 : World) (xv : Value) (bx b1 o1 n c0 k bb : Nat) (f m : Lx.Form) (sf sm : Value) (hf hm : Int) (d : Array Bool) (a : Act) (wc : World) : Prop := ∃ t : Array Value, a = ⟨t, []⟩ ∧ RlR T0 W0 xv bx b1 o1 n c0 k bb f m sf sm hf hm d t wc
def FormIn (w : World) (f : Lx.Form) (w' : World) (v : Value) : Prop := FormX w' (fun b => b < w'.heap.size ∧ w.heap.size ≤ b) v f

set_option maxRecDepth 100000 in
set_option maxHeartbeats 4000000 in
theorem Least_any (vx : Value) (x : Lx.Lexicon) (s : ByteArray) (w : World) (hr : RdL w w.heap.size vx x) (hs : s.size ≤ 1000) :
    Calls Tryd.prog 38 #[vx, .string s] w (RetVI w (FormIn w (Lx.leastR x s)) (Lx.leastN x s)) := by
  have HSP : Hid (∀ (W : World), Below w.heap.size w W → Calls Tryd.prog 64 #[vx, .string s] W (RetIB (Lx.speechV x s) W)) := Lib.hid fun W hW => speech_any vx x s W ((hr.below hW).more hW.size) (by simp only [maxLen]; omega)
  have HWI : Hid (∀ (W : World), Below w.heap.size w W → Lx.checkV x = 0 → Calls Tryd.prog 75 #[vx, .string s] W (fun e w' => ∃ v, e = .returned v ∧ OwnG KForm 29 w' W.heap.size v (Lx.withV x s) ∧ Below W.heap.size W w')) :=
    Lib.hid fun W hW hc => with_any x s hc hs vx W ((hr.below hW).more hW.size)
  have HRL := Lib.hid hr
  obtain ⟨⟨v0, v1, v2, rfl, ⟨A0, c0, rfl, -⟩, ⟨A1, c1, rfl, -⟩, ⟨A2, c2, rfl, -⟩⟩, -, -, -⟩ := hr
  have cx : ∀ (W : World), W.heap[w.heap.size]? = some (.cells #[.slice A0 x.entries.length c0, .slice A1 x.endings.length c1, .slice A2 x.clitics.length c2] 26 (0, 0)) →
      W.cell? ⟨w.heap.size, 0, none⟩ = some (.slice A0 x.entries.length c0) ∧ W.cell? ⟨w.heap.size, 1, none⟩ = some (.slice A1 x.endings.length c1) ∧ W.cell? ⟨w.heap.size, 2, none⟩ = some (.slice A2 x.clitics.length c2) :=
    fun W h => ⟨by simp [World.cell?, h], by simp [World.cell?, h], by simp [World.cell?, h]⟩
  have CX := Lib.hid cx
  clear cx
  have hal : Below w.heap.size w ((w.alloc (.cells #[.slice A0 x.entries.length c0, .slice A1 x.endings.length c1, .slice A2 x.clitics.length c2] 26)).alloc (.cells #[.int .i64 0, .int .i64 0, .slice none 0 0] 29)) := ((Below.refl _ _).alloc (Nat.le_refl _) _).alloc (by simp) _
  have HNB : Hid (Lx.speechV x s ≠ 0 → Lx.leastN x s = Lx.speechV x s ∧ Lx.leastR x s = ⟨0, 0, []⟩) := Lib.hid Lx.leastN_bad
  have HNG : Hid (Lx.speechV x s = 0 → Lx.checkV x = 0) := Lib.hid fun h => (Lx.speech_parts h).1
  generalize hcv : Lx.speechV x s = cv at HSP HNB HNG
  have HCV := Lib.hid hcv
  clear hcv
  go_enter Tryd.func38, Tryd.ntmps38
  go_wp2_with fail
  refine (HSP.out _ hal).mono ?_
  rintro e1 w1 ⟨rfl, hb1⟩
  have hs1 : w.heap.size + 2 ≤ w1.heap.size := by have := hb1.size; simp at this; omega
  have HB1 := Lib.hid (hal.trans (hb1.mono (by simp; omega)))
  have HXw1 := Lib.hid ((hb1.block w.heap.size (by simp; omega)).trans (start_fst w (.cells #[.slice A0 x.entries.length c0, .slice A1 x.endings.length c1, .slice A2 x.clitics.length c2] 26) (.cells #[.int .i64 0, .int .i64 0, .slice none 0 0] 29)))
  have HRw1 := Lib.hid ((hb1.block (w.heap.size + 1) (by simp)).trans (start_res2 w (.cells #[.slice A0 x.entries.length c0, .slice A1 x.endings.length c1, .slice A2 x.clitics.length c2] 26) (.cells #[.int .i64 0, .int .i64 0, .slice none 0 0] 29)))
  clear hb1 hal
  by_cases hz : cv = 0
  · have hq : (cv == 0) = true := by simp [hz]
    have hq' : (cv != 0) = false := by simp [hz]
    have HC0 := Lib.hid (HNG.out hz)
    have HZ := Lib.hid hz
    obtain ⟨x0, x1, x2⟩ := CX.out w1 HXw1.out
    clear hz
    go_wp2_with fail
    refine (HWI.out w1 HB1.out HC0.out).mono ?_
    rintro e2 w2 ⟨v2, rfl, hog, hb2⟩
    have hs2 : w.heap.size + 2 ≤ w2.heap.size := by have := hb2.size; omega
    have hrd : RdG KForm w2 (fun b => b < w2.heap.size ∧ w.heap.size + 2 ≤ b) v2 (Lx.withV x s) := hog.rd.keep fun b hb => ⟨⟨hb.1, by omega⟩, rfl⟩
    obtain ⟨A2', c2', rfl⟩ := hrd.form
    have HRD := Lib.hid hrd
    have HB2 := Lib.hid (HB1.out.trans (hb2.mono HB1.out.size))
    have HXw2 := Lib.hid ((hb2.block w.heap.size (by omega)).trans HXw1.out)
    have HRw2 := Lib.hid ((hb2.block (w.heap.size + 1) (by omega)).trans HRw1.out)
    have hmx : (Lx.withV x s).length ≤ 9223372036854775807 := by
      obtain ⟨_, _, e, h1, h2, _⟩ := hrd
      omega
    have HFIT : Hid (∀ f ∈ Lx.withV x s, Lx.FitsC x f) := Lib.hid (Lx.withV_fits HC0.out)
    have HNE : Hid (Lx.withV x s = [] → Lx.leastN x s = 3 ∧ Lx.leastR x s = ⟨0, 0, []⟩) := Lib.hid (Lx.leastN_none (HCV.out.trans HZ.out))
    have HNG : Hid (∀ f0 r, Lx.withV x s = f0 :: r → Lx.leastN x s = 0 ∧ Lx.leastR x s = Lx.leastL x f0 r) := Lib.hid (fun f0 r => Lx.leastN_good (HCV.out.trans HZ.out))
    generalize hlv : Lx.withV x s = l at *
    clear hlv hog hb2 hrd x0 x1 x2
    obtain ⟨x0, x1, x2⟩ := CX.out w2 HXw2.out
    cases hl : l with
    | nil =>
      have HF := Lib.hid (HNE.out hl)
      subst hl
      have r0 : w2.cell? ⟨w.heap.size + 1, 0, none⟩ = some (.int .i64 0) := by simp [World.cell?, HRw2.out]
      have r1 : w2.cell? ⟨w.heap.size + 1, 1, none⟩ = some (.int .i64 0) := by simp [World.cell?, HRw2.out]
      have r2 : w2.cell? ⟨w.heap.size + 1, 2, none⟩ = some (.slice none 0 0) := by simp [World.cell?, HRw2.out]
      have z0 : w2.frozen? ⟨w.heap.size + 1, 0, none⟩ = false := by simp [World.frozen?, HRw2.out]
      have z1 : w2.frozen? ⟨w.heap.size + 1, 1, none⟩ = false := by simp [World.frozen?, HRw2.out]
      have z2 : w2.frozen? ⟨w.heap.size + 1, 2, none⟩ = false := by simp [World.frozen?, HRw2.out]
      have HB9 : Hid (Below w.heap.size w (((w2.setCell ⟨w.heap.size + 1, 0, none⟩ (.int .i64 0)).setCell ⟨w.heap.size + 1, 1, none⟩ (.int .i64 0)).setCell ⟨w.heap.size + 1, 2, none⟩ (.slice none 0 0))) := Lib.hid (((HB2.out.setCell (by simp) _).setCell (by simp) _).setCell (by simp) _)
      go_wp2_with fail
      refine bodyPost_ret (v := .tuple #[.agg #[.int .i64 0, .int .i64 0, .slice none 0 0], .int .i64 3]) (by simp [results, Tryd.results38, go_sem, r0, r1, r2]) rfl ⟨_, ret_vi HF.out.1.symm, ?_, HB9.out⟩
      rw [HF.out.2]
      exact ⟨_, rfl, none, 0, rfl, by simp, by simp, fun h => absurd h (by simp)⟩
    | cons f0 r =>
      have HF := Lib.hid (HNG.out f0 r hl)
      have hq0 : ((l.length : Int) == 0) = false := by rw [hl]; simp; omega
      rw [← hl]
      have HL := Lib.hid hl
      clear hl
      have HCALL : Hid (∀ (W : World) (a b : Lx.Form) (va vb : Value), a ∈ l → b ∈ l → Below w2.heap.size w2 W → RdF W W.heap.size va a → RdF W W.heap.size vb b → Calls Tryd.prog 77 #[va, vb, .pointer (some ⟨w.heap.size, 0, none⟩)] W (RetIB (Lib.compareInt (Lx.heavyV x a) (Lx.heavyV x b)) W)) :=
        Lib.hid fun W a b va vb ha hb hW hra hrb => Least1_any va vb a b x w.heap.size _ W ((HRL.out.below (HB2.out.trans (hW.mono HB2.out.size))).more (HB2.out.trans (hW.mono HB2.out.size)).size) ⟨_, _, _, rfl, (hW.block _ (by omega)).trans HXw2.out⟩ hra hrb HC0.out (HFIT.out a ha) (HFIT.out b hb)
      go_wp2_with fail
      refine (minFunc_any (.pointer (some ⟨w.heap.size, 0, none⟩)) x l f0 r HL.out _ w2 (fun b => b < w2.heap.size ∧ w.heap.size + 2 ≤ b) (fun b hb => hb.1) HRD.out HCALL.out).mono ?_
      rintro e5 w5 ⟨v5, rfl, ⟨s5, rfl, hr5⟩, hb5⟩
      obtain ⟨A5, c5, rfl, -⟩ := id hr5
      have hs5 := hb5.size
      have HRX5 := Lib.hid hr5
      have HB5 := Lib.hid (HB2.out.trans (hb5.mono HB2.out.size))
      have HRw5 := Lib.hid ((hb5.block (w.heap.size + 1) (by omega)).trans HRw2.out)
      clear hb5 hr5
      have r0 : w5.cell? ⟨w.heap.size + 1, 0, none⟩ = some (.int .i64 0) := by simp [World.cell?, HRw5.out]
      have r1 : w5.cell? ⟨w.heap.size + 1, 1, none⟩ = some (.int .i64 0) := by simp [World.cell?, HRw5.out]
      have r2 : w5.cell? ⟨w.heap.size + 1, 2, none⟩ = some (.slice none 0 0) := by simp [World.cell?, HRw5.out]
      have z0 : w5.frozen? ⟨w.heap.size + 1, 0, none⟩ = false := by simp [World.frozen?, HRw5.out]
      have z1 : w5.frozen? ⟨w.heap.size + 1, 1, none⟩ = false := by simp [World.frozen?, HRw5.out]
      have z2 : w5.frozen? ⟨w.heap.size + 1, 2, none⟩ = false := by simp [World.frozen?, HRw5.out]
      have HB9 : Hid (Below w.heap.size w (((w5.setCell ⟨w.heap.size + 1, 0, none⟩ (.int .i64 (Lx.leastL x f0 r).entry)).setCell ⟨w.heap.size + 1, 1, none⟩ (.int .i64 (Lx.leastL x f0 r).ending)).setCell ⟨w.heap.size + 1, 2, none⟩ (.slice A5 (Lx.leastL x f0 r).clitics.length c5))) := Lib.hid (((HB5.out.setCell (by simp) _).setCell (by simp) _).setCell (by simp) _)
      have HR9 : Hid (RdX (((w5.setCell ⟨w.heap.size + 1, 0, none⟩ (.int .i64 (Lx.leastL x f0 r).entry)).setCell ⟨w.heap.size + 1, 1, none⟩ (.int .i64 (Lx.leastL x f0 r).ending)).setCell ⟨w.heap.size + 1, 2, none⟩ (.slice A5 (Lx.leastL x f0 r).clitics.length c5)) (fun b => b < (((w5.setCell ⟨w.heap.size + 1, 0, none⟩ (.int .i64 (Lx.leastL x f0 r).entry)).setCell ⟨w.heap.size + 1, 1, none⟩ (.int .i64 (Lx.leastL x f0 r).ending)).setCell ⟨w.heap.size + 1, 2, none⟩ (.slice A5 (Lx.leastL x f0 r).clitics.length c5)).heap.size ∧ w.heap.size ≤ b) 1 encInt (.slice A5 (Lx.leastL x f0 r).clitics.length c5) (Lx.leastL x f0 r).clitics) := Lib.hid (HRX5.out.keep fun b hb => ⟨⟨by simp [World.setCell]; omega, by omega⟩, by
        have h1 : ¬ w.heap.size + 1 = b := by omega
        simp [World.setCell, Array.getElem?_modify, h1]⟩)
      go_wp2_with fail
      refine bodyPost_ret (v := .tuple #[.agg #[.int .i64 (Lx.leastL x f0 r).entry, .int .i64 (Lx.leastL x f0 r).ending, .slice A5 (Lx.leastL x f0 r).clitics.length c5], .int .i64 0]) (by simp [results, Tryd.results38, go_sem, r0, r1, r2]) rfl ⟨_, ret_vi HF.out.1.symm, ?_, HB9.out⟩
      rw [HF.out.2]
      exact ⟨_, rfl, HR9.out⟩
  · have hq : (cv == 0) = false := by simp [hz]
    have hq' : (cv != 0) = true := by simp [hz]
    have HF := Lib.hid (HNB.out hz)
    have r0 : w1.cell? ⟨w.heap.size + 1, 0, none⟩ = some (.int .i64 0) := by simp [World.cell?, HRw1.out]
    have r1 : w1.cell? ⟨w.heap.size + 1, 1, none⟩ = some (.int .i64 0) := by simp [World.cell?, HRw1.out]
    have r2 : w1.cell? ⟨w.heap.size + 1, 2, none⟩ = some (.slice none 0 0) := by simp [World.cell?, HRw1.out]
    have z0 : w1.frozen? ⟨w.heap.size + 1, 0, none⟩ = false := by simp [World.frozen?, HRw1.out]
    have z1 : w1.frozen? ⟨w.heap.size + 1, 1, none⟩ = false := by simp [World.frozen?, HRw1.out]
    have z2 : w1.frozen? ⟨w.heap.size + 1, 2, none⟩ = false := by simp [World.frozen?, HRw1.out]
    have HB9 : Hid (Below w.heap.size w (((w1.setCell ⟨w.heap.size + 1, 0, none⟩ (.int .i64 0)).setCell ⟨w.heap.size + 1, 1, none⟩ (.int .i64 0)).setCell ⟨w.heap.size + 1, 2, none⟩ (.slice none 0 0))) := Lib.hid (((HB1.out.setCell (by simp) _).setCell (by simp) _).setCell (by simp) _)
    clear hz
    go_wp2_with fail
    refine bodyPost_ret (v := .tuple #[.agg #[.int .i64 0, .int .i64 0, .slice none 0 0], .int .i64 cv]) (by simp [results, Tryd.results38, go_sem, r0, r1, r2]) rfl ⟨_, ret_vi HF.out.1.symm, ?_, HB9.out⟩
    rw [HF.out.2]
    exact ⟨_, rfl, none, 0, rfl, by simp, by simp, fun h => absurd h (by simp)⟩

set_option maxRecDepth 100000 in
set_option maxHeartbeats 4000000 in
theorem rLeast_any (vx : Value) (x : Lx.Lexicon) (s : ByteArray) (w : World) (hr : RdL w w.heap.size vx x) (hs : s.size ≤ 1000) :
    Calls Tryd.prog 39 #[vx, .string s] w (RetVI w (FormIn w (Lx.leastR x s)) (Lx.leastN x s)) := by
  have HSP : Hid (∀ (W : World), Below w.heap.size w W → Calls Tryd.prog 70 #[vx, .string s] W (RetIB (Lx.speechV x s) W)) := Lib.hid fun W hW => rspeech_any vx x s W ((hr.below hW).more hW.size) (by simp only [maxLen]; omega)
  have HWI : Hid (∀ (W : World), Below w.heap.size w W → Lx.checkV x = 0 → Calls Tryd.prog 71 #[vx, .string s] W (fun e w' => ∃ v, e = .returned v ∧ OwnG KForm 29 w' W.heap.size v (Lx.withV x s) ∧ Below W.heap.size W w')) :=
    Lib.hid fun W hW hc => by rw [Lx.with_rwith hc]; exact rwith_any x s hc hs vx W ((hr.below hW).more hW.size)
  have HRL := Lib.hid hr
  obtain ⟨⟨v0, v1, v2, rfl, ⟨A0, c0, rfl, -⟩, ⟨A1, c1, rfl, -⟩, ⟨A2, c2, rfl, -⟩⟩, -, -, -⟩ := hr
  have cx : ∀ (W : World), W.heap[w.heap.size]? = some (.cells #[.slice A0 x.entries.length c0, .slice A1 x.endings.length c1, .slice A2 x.clitics.length c2] 26 (0, 0)) →
      W.cell? ⟨w.heap.size, 0, none⟩ = some (.slice A0 x.entries.length c0) ∧ W.cell? ⟨w.heap.size, 1, none⟩ = some (.slice A1 x.endings.length c1) ∧ W.cell? ⟨w.heap.size, 2, none⟩ = some (.slice A2 x.clitics.length c2) :=
    fun W h => ⟨by simp [World.cell?, h], by simp [World.cell?, h], by simp [World.cell?, h]⟩
  have CX := Lib.hid cx
  clear cx
  have hal : Below w.heap.size w ((w.alloc (.cells #[.slice A0 x.entries.length c0, .slice A1 x.endings.length c1, .slice A2 x.clitics.length c2] 26)).alloc (.cells #[.int .i64 0, .int .i64 0, .slice none 0 0] 29)) := ((Below.refl _ _).alloc (Nat.le_refl _) _).alloc (by simp) _
  have HNB : Hid (Lx.speechV x s ≠ 0 → Lx.leastN x s = Lx.speechV x s ∧ Lx.leastR x s = ⟨0, 0, []⟩) := Lib.hid Lx.leastN_bad
  have HNG : Hid (Lx.speechV x s = 0 → Lx.checkV x = 0) := Lib.hid fun h => (Lx.speech_parts h).1
  generalize hcv : Lx.speechV x s = cv at HSP HNB HNG
  have HCV := Lib.hid hcv
  clear hcv
  go_enter Tryd.func39, Tryd.ntmps39
  go_wp2_with fail
  refine (HSP.out _ hal).mono ?_
  rintro e1 w1 ⟨rfl, hb1⟩
  have hs1 : w.heap.size + 2 ≤ w1.heap.size := by have := hb1.size; simp at this; omega
  have HB1 := Lib.hid (hal.trans (hb1.mono (by simp; omega)))
  have HXw1 := Lib.hid ((hb1.block w.heap.size (by simp; omega)).trans (start_fst w (.cells #[.slice A0 x.entries.length c0, .slice A1 x.endings.length c1, .slice A2 x.clitics.length c2] 26) (.cells #[.int .i64 0, .int .i64 0, .slice none 0 0] 29)))
  have HRw1 := Lib.hid ((hb1.block (w.heap.size + 1) (by simp)).trans (start_res2 w (.cells #[.slice A0 x.entries.length c0, .slice A1 x.endings.length c1, .slice A2 x.clitics.length c2] 26) (.cells #[.int .i64 0, .int .i64 0, .slice none 0 0] 29)))
  clear hb1 hal
  by_cases hz : cv = 0
  · have hq : (cv == 0) = true := by simp [hz]
    have hq' : (cv != 0) = false := by simp [hz]
    have HC0 := Lib.hid (HNG.out hz)
    have HZ := Lib.hid hz
    obtain ⟨x0, x1, x2⟩ := CX.out w1 HXw1.out
    clear hz
    go_wp2_with fail
    refine (HWI.out w1 HB1.out HC0.out).mono ?_
    rintro e2 w2 ⟨v2, rfl, hog, hb2⟩
    have hs2 : w.heap.size + 2 ≤ w2.heap.size := by have := hb2.size; omega
    have hrd : RdG KForm w2 (fun b => b < w2.heap.size ∧ w.heap.size + 2 ≤ b) v2 (Lx.withV x s) := hog.rd.keep fun b hb => ⟨⟨hb.1, by omega⟩, rfl⟩
    obtain ⟨A2', c2', rfl⟩ := hrd.form
    have HRD := Lib.hid hrd
    have HB2 := Lib.hid (HB1.out.trans (hb2.mono HB1.out.size))
    have HXw2 := Lib.hid ((hb2.block w.heap.size (by omega)).trans HXw1.out)
    have HRw2 := Lib.hid ((hb2.block (w.heap.size + 1) (by omega)).trans HRw1.out)
    have hmx : (Lx.withV x s).length ≤ 9223372036854775807 := by
      obtain ⟨_, _, e, h1, h2, _⟩ := hrd
      omega
    have HFIT : Hid (∀ f ∈ Lx.withV x s, Lx.FitsC x f) := Lib.hid (Lx.withV_fits HC0.out)
    have HNE : Hid (Lx.withV x s = [] → Lx.leastN x s = 3 ∧ Lx.leastR x s = ⟨0, 0, []⟩) := Lib.hid (Lx.leastN_none (HCV.out.trans HZ.out))
    have HNG : Hid (∀ f0 r, Lx.withV x s = f0 :: r → Lx.leastN x s = 0 ∧ Lx.leastR x s = Lx.leastL x f0 r) := Lib.hid (fun f0 r => Lx.leastN_good (HCV.out.trans HZ.out))
    generalize hlv : Lx.withV x s = l at *
    clear hlv hog hb2 hrd x0 x1 x2
    obtain ⟨x0, x1, x2⟩ := CX.out w2 HXw2.out
    cases hl : l with
    | nil =>
      have HF := Lib.hid (HNE.out hl)
      subst hl
      have r0 : w2.cell? ⟨w.heap.size + 1, 0, none⟩ = some (.int .i64 0) := by simp [World.cell?, HRw2.out]
      have r1 : w2.cell? ⟨w.heap.size + 1, 1, none⟩ = some (.int .i64 0) := by simp [World.cell?, HRw2.out]
      have r2 : w2.cell? ⟨w.heap.size + 1, 2, none⟩ = some (.slice none 0 0) := by simp [World.cell?, HRw2.out]
      have z0 : w2.frozen? ⟨w.heap.size + 1, 0, none⟩ = false := by simp [World.frozen?, HRw2.out]
      have z1 : w2.frozen? ⟨w.heap.size + 1, 1, none⟩ = false := by simp [World.frozen?, HRw2.out]
      have z2 : w2.frozen? ⟨w.heap.size + 1, 2, none⟩ = false := by simp [World.frozen?, HRw2.out]
      have HB9 : Hid (Below w.heap.size w (((w2.setCell ⟨w.heap.size + 1, 0, none⟩ (.int .i64 0)).setCell ⟨w.heap.size + 1, 1, none⟩ (.int .i64 0)).setCell ⟨w.heap.size + 1, 2, none⟩ (.slice none 0 0))) := Lib.hid (((HB2.out.setCell (by simp) _).setCell (by simp) _).setCell (by simp) _)
      go_wp2_with fail
      refine bodyPost_ret (v := .tuple #[.agg #[.int .i64 0, .int .i64 0, .slice none 0 0], .int .i64 3]) (by simp [results, Tryd.results39, go_sem, r0, r1, r2]) rfl ⟨_, ret_vi HF.out.1.symm, ?_, HB9.out⟩
      rw [HF.out.2]
      exact ⟨_, rfl, none, 0, rfl, by simp, by simp, fun h => absurd h (by simp)⟩
    | cons f0 r =>
      have HF := Lib.hid (HNG.out f0 r hl)
      have hq0 : ((l.length : Int) == 0) = false := by rw [hl]; simp; omega
      rw [← hl]
      have HL := Lib.hid hl
      clear hl
      have hl1 : 1 ≤ l.length := by rw [HL.out]; simp
      obtain ⟨b1, o1, rfl, hb1, hc1⟩ := HRD.out.at (by omega)
      have hl0 : l[0]? = some f0 := by rw [HL.out]; rfl
      obtain ⟨cs, ⟨s0, rfl, hr0⟩, hd0⟩ := hc1 0 f0 hl0
      have y0 : w2.cell? ⟨b1, o1, none⟩ = some (.int .i64 f0.entry) := by have := hd0 0 _ rfl; simpa using this
      have y1 : w2.cell? ⟨b1, o1 + 1, none⟩ = some (.int .i64 f0.ending) := by have := hd0 1 _ rfl; simpa using this
      have y2 : w2.cell? ⟨b1, o1 + 2, none⟩ = some s0 := by have := hd0 2 _ rfl; simpa using this
      obtain ⟨S0, k0, rfl, -⟩ := id hr0
      have HR0 := Lib.hid hr0
      have hlI : (0 : Int) < (l.length : Int) := by omega
      clear hc1 hd0 hr0 hl0
      go_wp2_with fail
      go_loopg [9] l.length (fun g i wr => ∃ (k : Nat) (m : Lx.Form), k ≤ l.length ∧ g = l.length - k ∧ i = .int .i64 k ∧ m = Lx.leastL x f0 (l.take k) ∧ Below w2.heap.size w2 wr ∧ w2.heap.size + 1 ≤ wr.heap.size ∧
        ∃ s, wr.heap[w2.heap.size]? = some (.cells #[.int .i64 m.entry, .int .i64 m.ending, s] 29 (0, 0)) ∧ RdX wr (fun b => b < w2.heap.size ∧ w.heap.size + 2 ≤ b) 1 encInt s m.clitics)
      case atStart =>
        have hb0 : Below w2.heap.size w2 (w2.alloc (.cells #[.int .i64 f0.entry, .int .i64 f0.ending, .slice S0 f0.clitics.length k0] 29)) := (Below.refl _ _).alloc (Nat.le_refl _) _
        exact ⟨0, f0, Nat.zero_le _, rfl, rfl, rfl, hb0, by simp, _, heap_alloc_new _ _, HR0.out.keep fun b hb => ⟨hb, hb0.block b hb.1⟩⟩
      case round =>
        obtain ⟨k, m, hk, rfl, rfl, hm, hbel, hsz, sm, hbox, hrm⟩ := hrel
        obtain ⟨Sm, km, rfl, -⟩ := id hrm
        have HM := Lib.hid hm
        have HRM := Lib.hid hrm
        have HBEL := Lib.hid hbel
        have HBOX := Lib.hid hbox
        have HRr := Lib.hid ((hbel.block (w.heap.size + 1) (by omega)).trans HRw2.out)
        clear hm hrm y0 y1 y2 x0 x1 x2
        have hml : m ∈ l := by
          rw [HM.out]
          rcases Lx.leastL_mem (x := x) (l.take k) f0 with e | e
          · rw [e, HL.out]; simp
          · exact List.mem_of_mem_take e
        by_cases hlt : k < l.length
        · have hltI : (k : Int) < (l.length : Int) := by omega
          obtain ⟨f, hf⟩ : ∃ f, l[k]? = some f := ⟨_, List.getElem?_eq_getElem hlt⟩
          have HVR := HRD.out.keep (w' := wr) (ok' := fun b => b < w2.heap.size ∧ w.heap.size + 2 ≤ b) fun b hb => ⟨hb, hbel.block b hb.1⟩
          obtain ⟨_, _, e, _, hc1⟩ := HVR.at (by omega)
          cases e
          obtain ⟨cs, ⟨sf, rfl, hrf⟩, hd0⟩ := hc1 k f hf
          have y0 : wr.cell? ⟨b1, o1 + k * 3, none⟩ = some (.int .i64 f.entry) := hd0 0 _ rfl
          have y1 : wr.cell? ⟨b1, o1 + k * 3 + 1, none⟩ = some (.int .i64 f.ending) := hd0 1 _ rfl
          have y2 : wr.cell? ⟨b1, o1 + k * 3 + 2, none⟩ = some sf := hd0 2 _ rfl
          obtain ⟨Sf, kf, rfl, -⟩ := id hrf
          have HRF := Lib.hid hrf
          have hwsz := hbel.size
          have HXr := Lib.hid ((hbel.block w.heap.size (by omega)).trans HXw2.out)
          have CL : Hid (∀ W : World, Below wr.heap.size wr W → W.cell? ⟨b1, o1 + k * 3, none⟩ = some (.int .i64 f.entry) ∧ W.cell? ⟨b1, o1 + k * 3 + 1, none⟩ = some (.int .i64 f.ending) ∧ W.cell? ⟨b1, o1 + k * 3 + 2, none⟩ = some (.slice Sf f.clitics.length kf) ∧
              W.cell? ⟨w2.heap.size, 0, none⟩ = some (.int .i64 m.entry) ∧ W.cell? ⟨w2.heap.size, 1, none⟩ = some (.int .i64 m.ending) ∧ W.cell? ⟨w2.heap.size, 2, none⟩ = some (.slice Sm m.clitics.length km) ∧
              W.cell? ⟨w.heap.size, 0, none⟩ = some (.slice A0 x.entries.length c0) ∧ W.cell? ⟨w.heap.size, 1, none⟩ = some (.slice A1 x.endings.length c1) ∧ W.cell? ⟨w.heap.size, 2, none⟩ = some (.slice A2 x.clitics.length c2)) := Lib.hid fun W hW => by
            have g1 : b1 < wr.heap.size := Nat.lt_of_lt_of_le hb1.1 hwsz
            have p := (hW.block w2.heap.size (by omega)).trans HBOX.out
            exact ⟨(hW.cell (p := ⟨b1, o1 + k * 3, none⟩) g1).trans y0, (hW.cell (p := ⟨b1, o1 + k * 3 + 1, none⟩) g1).trans y1, (hW.cell (p := ⟨b1, o1 + k * 3 + 2, none⟩) g1).trans y2,
              by simp [World.cell?, p], by simp [World.cell?, p], by simp [World.cell?, p], CX.out W ((hW.block _ (by omega)).trans HXr.out)⟩
          have HBR := Lib.hid (HB2.out.trans (HBEL.out.mono HB2.out.size))
          have HHF : Hid (∀ W : World, Below wr.heap.size wr W → Calls Tryd.prog 35 #[(.agg #[.slice A0 x.entries.length c0, .slice A1 x.endings.length c1, .slice A2 x.clitics.length c2]), .agg #[.int .i64 f.entry, .int .i64 f.ending, .slice Sf f.clitics.length kf]] W (RetIB (Lx.heavyV x f) W)) :=
            Lib.hid fun W hW => rHeavy_any _ _ x f W ((HRL.out.below (HBR.out.trans (hW.mono HBR.out.size))).more (HBR.out.trans (hW.mono HBR.out.size)).size)
              ⟨⟨_, rfl, (HRF.out.keep (w' := W) (ok' := fun b => b < W.heap.size) (fun b hb => ⟨by have := hW.size; omega, hW.block b (by omega)⟩)).to (fun b hb => hb)⟩⟩ HC0.out (HFIT.out f (List.mem_of_getElem? hf))
          have HHM : Hid (∀ W : World, Below wr.heap.size wr W → Calls Tryd.prog 35 #[(.agg #[.slice A0 x.entries.length c0, .slice A1 x.endings.length c1, .slice A2 x.clitics.length c2]), .agg #[.int .i64 m.entry, .int .i64 m.ending, .slice Sm m.clitics.length km]] W (RetIB (Lx.heavyV x m) W)) :=
            Lib.hid fun W hW => rHeavy_any _ _ x m W ((HRL.out.below (HBR.out.trans (hW.mono HBR.out.size))).more (HBR.out.trans (hW.mono HBR.out.size)).size)
              ⟨⟨_, rfl, (HRM.out.keep (w' := W) (ok' := fun b => b < W.heap.size) (fun b hb => ⟨by have := hW.size; omega, hW.block b (by omega)⟩)).to (fun b hb => hb)⟩⟩ HC0.out (HFIT.out m hml)
          have HFR := Lib.hid hf
          clear hf hc1 hd0 hrf hbox HVR
          go_upto_region 11 with fail
          go_cut [42] (fun t wc => t = .bool (decide (Lx.heavyV x f < Lx.heavyV x m)) ∧ Below wr.heap.size wr wc)
          case first =>
            refine wp_region_inv2T (fun T0 => RlI T0 wr (.agg #[.slice A0 x.entries.length c0, .slice A1 x.endings.length c1, .slice A2 x.clitics.length c2]) w.heap.size b1 o1 l.length c2' k w2.heap.size f m (.slice Sf f.clitics.length kf) (.slice Sm m.clitics.length km) (Lx.heavyV x f) (Lx.heavyV x m)) (by kernel_rfl) (by kernel_rfl) ?g0 ?gstep ?gend
            case g0 =>
              have hno : ∀ j, ¬ dn (Array.replicate 10 false) j := by
                intro j; unfold dn; by_cases hj : j < 10 <;> simp [Array.getD, hj]
              exact ⟨_, rfl, { bel := (Below.refl _ _).drew, siz := rfl, kp := fun _ _ => rfl, k2 := rfl, k7 := rfl, k8 := rfl, k9 := rfl, p0 := fun hj => absurd hj (hno _), p1 := fun hj => absurd hj (hno _), p2 := fun hj => absurd hj (hno _), p3 := fun hj => absurd hj (hno _), p4 := fun hj => absurd hj (hno _), p5 := fun hj => absurd hj (hno _), p6 := fun hj => absurd hj (hno _), p7 := fun hj => absurd hj (hno _), p8 := fun hj => absurd hj (hno _), p9 := fun hj => absurd hj (hno _) }⟩
            case gstep =>
              intro T0 d a wc i hd hI hi
              obtain ⟨hlt, hnd, hpre⟩ := mem_ready hi
              have hd' : d.size = 10 := hd
              have hin : i < 10 := hlt
              clear hi hd hlt
              obtain ⟨t, rfl, h⟩ := hI
              have hcs : i = 0 ∨ i = 1 ∨ i = 2 ∨ i = 3 ∨ i = 4 ∨ i = 5 ∨ i = 6 ∨ i = 7 ∨ i = 8 ∨ i = 9 := by omega
              rcases hcs with rfl | rfl | rfl | rfl | rfl | rfl | rfl | rfl | rfl | rfl
              · have hi : 0 < d.size := by omega
                have q2 := h.k2
                obtain ⟨m0, m1, m2, m3, m4, m5, x0, x1, x2⟩ := CL.out wc h.bel
                refine wpOp_plain rfl rfl ?_
                go_simp
                exact ⟨_, rfl, { bel := h.bel, siz := (by simpa using h.siz), kp := fun i hi' => (set_other (fun e => hi' (by subst e; decide))).trans (h.kp i hi'), k2 := (set_other (by decide)).trans h.k2, k7 := (set_other (by decide)).trans h.k7, k8 := (set_other (by decide)).trans h.k8, k9 := (set_other (by decide)).trans h.k9, p0 := fun _ => set_same (by have := h.siz; omega), p1 := fun hj => (set_other (by decide)).trans (h.p1 (dn_of hi hj (by decide))), p2 := fun hj => (set_other (by decide)).trans (h.p2 (dn_of hi hj (by decide))), p3 := fun hj => (set_other (by decide)).trans (h.p3 (dn_of hi hj (by decide))), p4 := fun hj => (set_other (by decide)).trans (h.p4 (dn_of hi hj (by decide))), p5 := fun hj => (set_other (by decide)).trans (h.p5 (dn_of hi hj (by decide))), p6 := fun hj => (set_other (by decide)).trans (h.p6 (dn_of hi hj (by decide))), p7 := fun hj => (set_other (by decide)).trans (h.p7 (dn_of hi hj (by decide))), p8 := fun hj => (set_other (by decide)).trans (h.p8 (dn_of hi hj (by decide))), p9 := fun hj => (set_other (by decide)).trans (h.p9 (dn_of hi hj (by decide))) }⟩
              · have hi : 1 < d.size := by omega
                have q7 := h.k7
                refine wpOp_plain rfl rfl ?_
                go_simp
                exact ⟨_, rfl, { bel := h.bel, siz := (by simpa using h.siz), kp := fun i hi' => (set_other (fun e => hi' (by subst e; decide))).trans (h.kp i hi'), k2 := (set_other (by decide)).trans h.k2, k7 := (set_other (by decide)).trans h.k7, k8 := (set_other (by decide)).trans h.k8, k9 := (set_other (by decide)).trans h.k9, p0 := fun hj => (set_other (by decide)).trans (h.p0 (dn_of hi hj (by decide))), p1 := fun _ => set_same (by have := h.siz; omega), p2 := fun hj => (set_other (by decide)).trans (h.p2 (dn_of hi hj (by decide))), p3 := fun hj => (set_other (by decide)).trans (h.p3 (dn_of hi hj (by decide))), p4 := fun hj => (set_other (by decide)).trans (h.p4 (dn_of hi hj (by decide))), p5 := fun hj => (set_other (by decide)).trans (h.p5 (dn_of hi hj (by decide))), p6 := fun hj => (set_other (by decide)).trans (h.p6 (dn_of hi hj (by decide))), p7 := fun hj => (set_other (by decide)).trans (h.p7 (dn_of hi hj (by decide))), p8 := fun hj => (set_other (by decide)).trans (h.p8 (dn_of hi hj (by decide))), p9 := fun hj => (set_other (by decide)).trans (h.p9 (dn_of hi hj (by decide))) }⟩
              · have hi : 2 < d.size := by omega
                have q9 := h.k9
                refine wpOp_plain rfl rfl ?_
                go_simp
                exact ⟨_, rfl, { bel := h.bel, siz := (by simpa using h.siz), kp := fun i hi' => (set_other (fun e => hi' (by subst e; decide))).trans (h.kp i hi'), k2 := (set_other (by decide)).trans h.k2, k7 := (set_other (by decide)).trans h.k7, k8 := (set_other (by decide)).trans h.k8, k9 := (set_other (by decide)).trans h.k9, p0 := fun hj => (set_other (by decide)).trans (h.p0 (dn_of hi hj (by decide))), p1 := fun hj => (set_other (by decide)).trans (h.p1 (dn_of hi hj (by decide))), p2 := fun _ => set_same (by have := h.siz; omega), p3 := fun hj => (set_other (by decide)).trans (h.p3 (dn_of hi hj (by decide))), p4 := fun hj => (set_other (by decide)).trans (h.p4 (dn_of hi hj (by decide))), p5 := fun hj => (set_other (by decide)).trans (h.p5 (dn_of hi hj (by decide))), p6 := fun hj => (set_other (by decide)).trans (h.p6 (dn_of hi hj (by decide))), p7 := fun hj => (set_other (by decide)).trans (h.p7 (dn_of hi hj (by decide))), p8 := fun hj => (set_other (by decide)).trans (h.p8 (dn_of hi hj (by decide))), p9 := fun hj => (set_other (by decide)).trans (h.p9 (dn_of hi hj (by decide))) }⟩
              · have hi : 3 < d.size := by omega
                have e1 := h.p1 (hpre _ rfl ⟨1, .data⟩ (by simp) rfl)
                have e2 := h.p2 (hpre _ rfl ⟨2, .data⟩ (by simp) rfl)
                refine wpOp_plain rfl rfl ?_
                go_simp
                exact ⟨_, rfl, { bel := h.bel, siz := (by simpa using h.siz), kp := fun i hi' => (set_other (fun e => hi' (by subst e; decide))).trans (h.kp i hi'), k2 := (set_other (by decide)).trans h.k2, k7 := (set_other (by decide)).trans h.k7, k8 := (set_other (by decide)).trans h.k8, k9 := (set_other (by decide)).trans h.k9, p0 := fun hj => (set_other (by decide)).trans (h.p0 (dn_of hi hj (by decide))), p1 := fun hj => (set_other (by decide)).trans (h.p1 (dn_of hi hj (by decide))), p2 := fun hj => (set_other (by decide)).trans (h.p2 (dn_of hi hj (by decide))), p3 := fun _ => set_same (by have := h.siz; omega), p4 := fun hj => (set_other (by decide)).trans (h.p4 (dn_of hi hj (by decide))), p5 := fun hj => (set_other (by decide)).trans (h.p5 (dn_of hi hj (by decide))), p6 := fun hj => (set_other (by decide)).trans (h.p6 (dn_of hi hj (by decide))), p7 := fun hj => (set_other (by decide)).trans (h.p7 (dn_of hi hj (by decide))), p8 := fun hj => (set_other (by decide)).trans (h.p8 (dn_of hi hj (by decide))), p9 := fun hj => (set_other (by decide)).trans (h.p9 (dn_of hi hj (by decide))) }⟩
              · have hi : 4 < d.size := by omega
                have e3 := h.p3 (hpre _ rfl ⟨3, .data⟩ (by simp) rfl)
                obtain ⟨m0, m1, m2, m3, m4, m5, x0, x1, x2⟩ := CL.out wc h.bel
                refine wpOp_plain rfl rfl ?_
                go_simp
                exact ⟨_, rfl, { bel := h.bel, siz := (by simpa using h.siz), kp := fun i hi' => (set_other (fun e => hi' (by subst e; decide))).trans (h.kp i hi'), k2 := (set_other (by decide)).trans h.k2, k7 := (set_other (by decide)).trans h.k7, k8 := (set_other (by decide)).trans h.k8, k9 := (set_other (by decide)).trans h.k9, p0 := fun hj => (set_other (by decide)).trans (h.p0 (dn_of hi hj (by decide))), p1 := fun hj => (set_other (by decide)).trans (h.p1 (dn_of hi hj (by decide))), p2 := fun hj => (set_other (by decide)).trans (h.p2 (dn_of hi hj (by decide))), p3 := fun hj => (set_other (by decide)).trans (h.p3 (dn_of hi hj (by decide))), p4 := fun _ => set_same (by have := h.siz; omega), p5 := fun hj => (set_other (by decide)).trans (h.p5 (dn_of hi hj (by decide))), p6 := fun hj => (set_other (by decide)).trans (h.p6 (dn_of hi hj (by decide))), p7 := fun hj => (set_other (by decide)).trans (h.p7 (dn_of hi hj (by decide))), p8 := fun hj => (set_other (by decide)).trans (h.p8 (dn_of hi hj (by decide))), p9 := fun hj => (set_other (by decide)).trans (h.p9 (dn_of hi hj (by decide))) }⟩
              · have hi : 5 < d.size := by omega
                have e0 := h.p0 (hpre _ rfl ⟨0, .data⟩ (by simp) rfl)
                have e4 := h.p4 (hpre _ rfl ⟨4, .data⟩ (by simp) rfl)
                refine wpOp_plain rfl rfl ?_
                go_simp
                refine (HHF.out wc h.bel).mono ?_
                rintro e1 w1 ⟨rfl, hb⟩
                exact ⟨_, rfl, { bel := h.bel.trans (hb.mono h.bel.size), siz := (by simpa using h.siz), kp := fun i hi' => (set_other (fun e => hi' (by subst e; decide))).trans (h.kp i hi'), k2 := (set_other (by decide)).trans h.k2, k7 := (set_other (by decide)).trans h.k7, k8 := (set_other (by decide)).trans h.k8, k9 := (set_other (by decide)).trans h.k9, p0 := fun hj => (set_other (by decide)).trans (h.p0 (dn_of hi hj (by decide))), p1 := fun hj => (set_other (by decide)).trans (h.p1 (dn_of hi hj (by decide))), p2 := fun hj => (set_other (by decide)).trans (h.p2 (dn_of hi hj (by decide))), p3 := fun hj => (set_other (by decide)).trans (h.p3 (dn_of hi hj (by decide))), p4 := fun hj => (set_other (by decide)).trans (h.p4 (dn_of hi hj (by decide))), p5 := fun _ => set_same (by have := h.siz; omega), p6 := fun hj => (set_other (by decide)).trans (h.p6 (dn_of hi hj (by decide))), p7 := fun hj => (set_other (by decide)).trans (h.p7 (dn_of hi hj (by decide))), p8 := fun hj => (set_other (by decide)).trans (h.p8 (dn_of hi hj (by decide))), p9 := fun hj => (set_other (by decide)).trans (h.p9 (dn_of hi hj (by decide))) }⟩
              · have hi : 6 < d.size := by omega
                have q2 := h.k2
                obtain ⟨m0, m1, m2, m3, m4, m5, x0, x1, x2⟩ := CL.out wc h.bel
                refine wpOp_plain rfl rfl ?_
                go_simp
                exact ⟨_, rfl, { bel := h.bel, siz := (by simpa using h.siz), kp := fun i hi' => (set_other (fun e => hi' (by subst e; decide))).trans (h.kp i hi'), k2 := (set_other (by decide)).trans h.k2, k7 := (set_other (by decide)).trans h.k7, k8 := (set_other (by decide)).trans h.k8, k9 := (set_other (by decide)).trans h.k9, p0 := fun hj => (set_other (by decide)).trans (h.p0 (dn_of hi hj (by decide))), p1 := fun hj => (set_other (by decide)).trans (h.p1 (dn_of hi hj (by decide))), p2 := fun hj => (set_other (by decide)).trans (h.p2 (dn_of hi hj (by decide))), p3 := fun hj => (set_other (by decide)).trans (h.p3 (dn_of hi hj (by decide))), p4 := fun hj => (set_other (by decide)).trans (h.p4 (dn_of hi hj (by decide))), p5 := fun hj => (set_other (by decide)).trans (h.p5 (dn_of hi hj (by decide))), p6 := fun _ => set_same (by have := h.siz; omega), p7 := fun hj => (set_other (by decide)).trans (h.p7 (dn_of hi hj (by decide))), p8 := fun hj => (set_other (by decide)).trans (h.p8 (dn_of hi hj (by decide))), p9 := fun hj => (set_other (by decide)).trans (h.p9 (dn_of hi hj (by decide))) }⟩
              · have hi : 7 < d.size := by omega
                have q8 := h.k8
                obtain ⟨m0, m1, m2, m3, m4, m5, x0, x1, x2⟩ := CL.out wc h.bel
                refine wpOp_plain rfl rfl ?_
                go_simp
                exact ⟨_, rfl, { bel := h.bel, siz := (by simpa using h.siz), kp := fun i hi' => (set_other (fun e => hi' (by subst e; decide))).trans (h.kp i hi'), k2 := (set_other (by decide)).trans h.k2, k7 := (set_other (by decide)).trans h.k7, k8 := (set_other (by decide)).trans h.k8, k9 := (set_other (by decide)).trans h.k9, p0 := fun hj => (set_other (by decide)).trans (h.p0 (dn_of hi hj (by decide))), p1 := fun hj => (set_other (by decide)).trans (h.p1 (dn_of hi hj (by decide))), p2 := fun hj => (set_other (by decide)).trans (h.p2 (dn_of hi hj (by decide))), p3 := fun hj => (set_other (by decide)).trans (h.p3 (dn_of hi hj (by decide))), p4 := fun hj => (set_other (by decide)).trans (h.p4 (dn_of hi hj (by decide))), p5 := fun hj => (set_other (by decide)).trans (h.p5 (dn_of hi hj (by decide))), p6 := fun hj => (set_other (by decide)).trans (h.p6 (dn_of hi hj (by decide))), p7 := fun _ => set_same (by have := h.siz; omega), p8 := fun hj => (set_other (by decide)).trans (h.p8 (dn_of hi hj (by decide))), p9 := fun hj => (set_other (by decide)).trans (h.p9 (dn_of hi hj (by decide))) }⟩
              · have hi : 8 < d.size := by omega
                have e6 := h.p6 (hpre _ rfl ⟨6, .data⟩ (by simp) rfl)
                have e7 := h.p7 (hpre _ rfl ⟨7, .data⟩ (by simp) rfl)
                refine wpOp_plain rfl rfl ?_
                go_simp
                refine (HHM.out wc h.bel).mono ?_
                rintro e1 w1 ⟨rfl, hb⟩
                exact ⟨_, rfl, { bel := h.bel.trans (hb.mono h.bel.size), siz := (by simpa using h.siz), kp := fun i hi' => (set_other (fun e => hi' (by subst e; decide))).trans (h.kp i hi'), k2 := (set_other (by decide)).trans h.k2, k7 := (set_other (by decide)).trans h.k7, k8 := (set_other (by decide)).trans h.k8, k9 := (set_other (by decide)).trans h.k9, p0 := fun hj => (set_other (by decide)).trans (h.p0 (dn_of hi hj (by decide))), p1 := fun hj => (set_other (by decide)).trans (h.p1 (dn_of hi hj (by decide))), p2 := fun hj => (set_other (by decide)).trans (h.p2 (dn_of hi hj (by decide))), p3 := fun hj => (set_other (by decide)).trans (h.p3 (dn_of hi hj (by decide))), p4 := fun hj => (set_other (by decide)).trans (h.p4 (dn_of hi hj (by decide))), p5 := fun hj => (set_other (by decide)).trans (h.p5 (dn_of hi hj (by decide))), p6 := fun hj => (set_other (by decide)).trans (h.p6 (dn_of hi hj (by decide))), p7 := fun hj => (set_other (by decide)).trans (h.p7 (dn_of hi hj (by decide))), p8 := fun _ => set_same (by have := h.siz; omega), p9 := fun hj => (set_other (by decide)).trans (h.p9 (dn_of hi hj (by decide))) }⟩
              · have hi : 9 < d.size := by omega
                have e5 := h.p5 (hpre _ rfl ⟨5, .data⟩ (by simp) rfl)
                have e8 := h.p8 (hpre _ rfl ⟨8, .data⟩ (by simp) rfl)
                refine wpOp_plain rfl rfl ?_
                go_simp
                exact ⟨_, rfl, { bel := h.bel, siz := (by simpa using h.siz), kp := fun i hi' => (set_other (fun e => hi' (by subst e; decide))).trans (h.kp i hi'), k2 := (set_other (by decide)).trans h.k2, k7 := (set_other (by decide)).trans h.k7, k8 := (set_other (by decide)).trans h.k8, k9 := (set_other (by decide)).trans h.k9, p0 := fun hj => (set_other (by decide)).trans (h.p0 (dn_of hi hj (by decide))), p1 := fun hj => (set_other (by decide)).trans (h.p1 (dn_of hi hj (by decide))), p2 := fun hj => (set_other (by decide)).trans (h.p2 (dn_of hi hj (by decide))), p3 := fun hj => (set_other (by decide)).trans (h.p3 (dn_of hi hj (by decide))), p4 := fun hj => (set_other (by decide)).trans (h.p4 (dn_of hi hj (by decide))), p5 := fun hj => (set_other (by decide)).trans (h.p5 (dn_of hi hj (by decide))), p6 := fun hj => (set_other (by decide)).trans (h.p6 (dn_of hi hj (by decide))), p7 := fun hj => (set_other (by decide)).trans (h.p7 (dn_of hi hj (by decide))), p8 := fun hj => (set_other (by decide)).trans (h.p8 (dn_of hi hj (by decide))), p9 := fun _ => set_same (by have := h.siz; omega) }⟩
            case gend =>
              intro d a wc hd hI hall
              obtain ⟨t, rfl, h⟩ := hI
              have hdn : ∀ j, j < 10 → dn d j := fun j hj => dn_all hd hall hj
              have hl : t.toList.length = 48 := h.siz
              obtain ⟨l⟩ := t
              simp only [] at hl
              obtain ⟨t0, l, rfl⟩ := List.exists_cons_of_length_eq_add_one (n := 47) hl; replace hl : l.length = 47 := (by simpa using hl)
              obtain ⟨t1, l, rfl⟩ := List.exists_cons_of_length_eq_add_one (n := 46) hl; replace hl : l.length = 46 := (by simpa using hl)
              obtain ⟨t2, l, rfl⟩ := List.exists_cons_of_length_eq_add_one (n := 45) hl; replace hl : l.length = 45 := (by simpa using hl)
              obtain ⟨t3, l, rfl⟩ := List.exists_cons_of_length_eq_add_one (n := 44) hl; replace hl : l.length = 44 := (by simpa using hl)
              obtain ⟨t4, l, rfl⟩ := List.exists_cons_of_length_eq_add_one (n := 43) hl; replace hl : l.length = 43 := (by simpa using hl)
              obtain ⟨t5, l, rfl⟩ := List.exists_cons_of_length_eq_add_one (n := 42) hl; replace hl : l.length = 42 := (by simpa using hl)
              obtain ⟨t6, l, rfl⟩ := List.exists_cons_of_length_eq_add_one (n := 41) hl; replace hl : l.length = 41 := (by simpa using hl)
              obtain ⟨t7, l, rfl⟩ := List.exists_cons_of_length_eq_add_one (n := 40) hl; replace hl : l.length = 40 := (by simpa using hl)
              obtain ⟨t8, l, rfl⟩ := List.exists_cons_of_length_eq_add_one (n := 39) hl; replace hl : l.length = 39 := (by simpa using hl)
              obtain ⟨t9, l, rfl⟩ := List.exists_cons_of_length_eq_add_one (n := 38) hl; replace hl : l.length = 38 := (by simpa using hl)
              obtain ⟨t10, l, rfl⟩ := List.exists_cons_of_length_eq_add_one (n := 37) hl; replace hl : l.length = 37 := (by simpa using hl)
              obtain ⟨t11, l, rfl⟩ := List.exists_cons_of_length_eq_add_one (n := 36) hl; replace hl : l.length = 36 := (by simpa using hl)
              obtain ⟨t12, l, rfl⟩ := List.exists_cons_of_length_eq_add_one (n := 35) hl; replace hl : l.length = 35 := (by simpa using hl)
              obtain ⟨t13, l, rfl⟩ := List.exists_cons_of_length_eq_add_one (n := 34) hl; replace hl : l.length = 34 := (by simpa using hl)
              obtain ⟨t14, l, rfl⟩ := List.exists_cons_of_length_eq_add_one (n := 33) hl; replace hl : l.length = 33 := (by simpa using hl)
              obtain ⟨t15, l, rfl⟩ := List.exists_cons_of_length_eq_add_one (n := 32) hl; replace hl : l.length = 32 := (by simpa using hl)
              obtain ⟨t16, l, rfl⟩ := List.exists_cons_of_length_eq_add_one (n := 31) hl; replace hl : l.length = 31 := (by simpa using hl)
              obtain ⟨t17, l, rfl⟩ := List.exists_cons_of_length_eq_add_one (n := 30) hl; replace hl : l.length = 30 := (by simpa using hl)
              obtain ⟨t18, l, rfl⟩ := List.exists_cons_of_length_eq_add_one (n := 29) hl; replace hl : l.length = 29 := (by simpa using hl)
              obtain ⟨t19, l, rfl⟩ := List.exists_cons_of_length_eq_add_one (n := 28) hl; replace hl : l.length = 28 := (by simpa using hl)
              obtain ⟨t20, l, rfl⟩ := List.exists_cons_of_length_eq_add_one (n := 27) hl; replace hl : l.length = 27 := (by simpa using hl)
              obtain ⟨t21, l, rfl⟩ := List.exists_cons_of_length_eq_add_one (n := 26) hl; replace hl : l.length = 26 := (by simpa using hl)
              obtain ⟨t22, l, rfl⟩ := List.exists_cons_of_length_eq_add_one (n := 25) hl; replace hl : l.length = 25 := (by simpa using hl)
              obtain ⟨t23, l, rfl⟩ := List.exists_cons_of_length_eq_add_one (n := 24) hl; replace hl : l.length = 24 := (by simpa using hl)
              obtain ⟨t24, l, rfl⟩ := List.exists_cons_of_length_eq_add_one (n := 23) hl; replace hl : l.length = 23 := (by simpa using hl)
              obtain ⟨t25, l, rfl⟩ := List.exists_cons_of_length_eq_add_one (n := 22) hl; replace hl : l.length = 22 := (by simpa using hl)
              obtain ⟨t26, l, rfl⟩ := List.exists_cons_of_length_eq_add_one (n := 21) hl; replace hl : l.length = 21 := (by simpa using hl)
              obtain ⟨t27, l, rfl⟩ := List.exists_cons_of_length_eq_add_one (n := 20) hl; replace hl : l.length = 20 := (by simpa using hl)
              obtain ⟨t28, l, rfl⟩ := List.exists_cons_of_length_eq_add_one (n := 19) hl; replace hl : l.length = 19 := (by simpa using hl)
              obtain ⟨t29, l, rfl⟩ := List.exists_cons_of_length_eq_add_one (n := 18) hl; replace hl : l.length = 18 := (by simpa using hl)
              obtain ⟨t30, l, rfl⟩ := List.exists_cons_of_length_eq_add_one (n := 17) hl; replace hl : l.length = 17 := (by simpa using hl)
              obtain ⟨t31, l, rfl⟩ := List.exists_cons_of_length_eq_add_one (n := 16) hl; replace hl : l.length = 16 := (by simpa using hl)
              obtain ⟨t32, l, rfl⟩ := List.exists_cons_of_length_eq_add_one (n := 15) hl; replace hl : l.length = 15 := (by simpa using hl)
              obtain ⟨t33, l, rfl⟩ := List.exists_cons_of_length_eq_add_one (n := 14) hl; replace hl : l.length = 14 := (by simpa using hl)
              obtain ⟨t34, l, rfl⟩ := List.exists_cons_of_length_eq_add_one (n := 13) hl; replace hl : l.length = 13 := (by simpa using hl)
              obtain ⟨t35, l, rfl⟩ := List.exists_cons_of_length_eq_add_one (n := 12) hl; replace hl : l.length = 12 := (by simpa using hl)
              obtain ⟨t36, l, rfl⟩ := List.exists_cons_of_length_eq_add_one (n := 11) hl; replace hl : l.length = 11 := (by simpa using hl)
              obtain ⟨t37, l, rfl⟩ := List.exists_cons_of_length_eq_add_one (n := 10) hl; replace hl : l.length = 10 := (by simpa using hl)
              obtain ⟨t38, l, rfl⟩ := List.exists_cons_of_length_eq_add_one (n := 9) hl; replace hl : l.length = 9 := (by simpa using hl)
              obtain ⟨t39, l, rfl⟩ := List.exists_cons_of_length_eq_add_one (n := 8) hl; replace hl : l.length = 8 := (by simpa using hl)
              obtain ⟨t40, l, rfl⟩ := List.exists_cons_of_length_eq_add_one (n := 7) hl; replace hl : l.length = 7 := (by simpa using hl)
              obtain ⟨t41, l, rfl⟩ := List.exists_cons_of_length_eq_add_one (n := 6) hl; replace hl : l.length = 6 := (by simpa using hl)
              obtain ⟨t42, l, rfl⟩ := List.exists_cons_of_length_eq_add_one (n := 5) hl; replace hl : l.length = 5 := (by simpa using hl)
              obtain ⟨t43, l, rfl⟩ := List.exists_cons_of_length_eq_add_one (n := 4) hl; replace hl : l.length = 4 := (by simpa using hl)
              obtain ⟨t44, l, rfl⟩ := List.exists_cons_of_length_eq_add_one (n := 3) hl; replace hl : l.length = 3 := (by simpa using hl)
              obtain ⟨t45, l, rfl⟩ := List.exists_cons_of_length_eq_add_one (n := 2) hl; replace hl : l.length = 2 := (by simpa using hl)
              obtain ⟨t46, l, rfl⟩ := List.exists_cons_of_length_eq_add_one (n := 1) hl; replace hl : l.length = 1 := (by simpa using hl)
              obtain ⟨t47, l, rfl⟩ := List.exists_cons_of_length_eq_add_one (n := 0) hl; replace hl : l.length = 0 := (by simpa using hl)
              obtain rfl := List.eq_nil_of_length_eq_zero hl
              clear hl
              have e := h.kp 0 (by decide); simp only [List.getElem?_toArray, List.getElem?_cons_zero, Option.some.injEq] at e; subst e
              have e := h.kp 1 (by decide); simp only [List.getElem?_toArray, List.getElem?_cons_succ, List.getElem?_cons_zero, Option.some.injEq] at e; subst e
              have e := h.kp 2 (by decide); simp only [List.getElem?_toArray, List.getElem?_cons_succ, List.getElem?_cons_zero, Option.some.injEq] at e; subst e
              have e := h.kp 3 (by decide); simp only [List.getElem?_toArray, List.getElem?_cons_succ, List.getElem?_cons_zero, Option.some.injEq] at e; subst e
              have e := h.kp 4 (by decide); simp only [List.getElem?_toArray, List.getElem?_cons_succ, List.getElem?_cons_zero, Option.some.injEq] at e; subst e
              have e := h.kp 5 (by decide); simp only [List.getElem?_toArray, List.getElem?_cons_succ, List.getElem?_cons_zero, Option.some.injEq] at e; subst e
              have e := h.kp 6 (by decide); simp only [List.getElem?_toArray, List.getElem?_cons_succ, List.getElem?_cons_zero, Option.some.injEq] at e; subst e
              have e := h.kp 7 (by decide); simp only [List.getElem?_toArray, List.getElem?_cons_succ, List.getElem?_cons_zero, Option.some.injEq] at e; subst e
              have e := h.kp 8 (by decide); simp only [List.getElem?_toArray, List.getElem?_cons_succ, List.getElem?_cons_zero, Option.some.injEq] at e; subst e
              have e := h.kp 9 (by decide); simp only [List.getElem?_toArray, List.getElem?_cons_succ, List.getElem?_cons_zero, Option.some.injEq] at e; subst e
              have e := h.kp 10 (by decide); simp only [List.getElem?_toArray, List.getElem?_cons_succ, List.getElem?_cons_zero, Option.some.injEq] at e; subst e
              have e := h.kp 11 (by decide); simp only [List.getElem?_toArray, List.getElem?_cons_succ, List.getElem?_cons_zero, Option.some.injEq] at e; subst e
              have e := h.kp 12 (by decide); simp only [List.getElem?_toArray, List.getElem?_cons_succ, List.getElem?_cons_zero, Option.some.injEq] at e; subst e
              have e := h.kp 13 (by decide); simp only [List.getElem?_toArray, List.getElem?_cons_succ, List.getElem?_cons_zero, Option.some.injEq] at e; subst e
              have e := h.kp 14 (by decide); simp only [List.getElem?_toArray, List.getElem?_cons_succ, List.getElem?_cons_zero, Option.some.injEq] at e; subst e
              have e := h.kp 15 (by decide); simp only [List.getElem?_toArray, List.getElem?_cons_succ, List.getElem?_cons_zero, Option.some.injEq] at e; subst e
              have e := h.kp 16 (by decide); simp only [List.getElem?_toArray, List.getElem?_cons_succ, List.getElem?_cons_zero, Option.some.injEq] at e; subst e
              have e := h.kp 17 (by decide); simp only [List.getElem?_toArray, List.getElem?_cons_succ, List.getElem?_cons_zero, Option.some.injEq] at e; subst e
              have e := h.kp 18 (by decide); simp only [List.getElem?_toArray, List.getElem?_cons_succ, List.getElem?_cons_zero, Option.some.injEq] at e; subst e
              have e := h.kp 19 (by decide); simp only [List.getElem?_toArray, List.getElem?_cons_succ, List.getElem?_cons_zero, Option.some.injEq] at e; subst e
              have e := h.kp 20 (by decide); simp only [List.getElem?_toArray, List.getElem?_cons_succ, List.getElem?_cons_zero, Option.some.injEq] at e; subst e
              have e := h.kp 21 (by decide); simp only [List.getElem?_toArray, List.getElem?_cons_succ, List.getElem?_cons_zero, Option.some.injEq] at e; subst e
              have e := h.kp 22 (by decide); simp only [List.getElem?_toArray, List.getElem?_cons_succ, List.getElem?_cons_zero, Option.some.injEq] at e; subst e
              have e := h.kp 23 (by decide); simp only [List.getElem?_toArray, List.getElem?_cons_succ, List.getElem?_cons_zero, Option.some.injEq] at e; subst e
              have e := h.kp 24 (by decide); simp only [List.getElem?_toArray, List.getElem?_cons_succ, List.getElem?_cons_zero, Option.some.injEq] at e; subst e
              have e := h.kp 25 (by decide); simp only [List.getElem?_toArray, List.getElem?_cons_succ, List.getElem?_cons_zero, Option.some.injEq] at e; subst e
              have e := h.kp 26 (by decide); simp only [List.getElem?_toArray, List.getElem?_cons_succ, List.getElem?_cons_zero, Option.some.injEq] at e; subst e
              have e := h.kp 27 (by decide); simp only [List.getElem?_toArray, List.getElem?_cons_succ, List.getElem?_cons_zero, Option.some.injEq] at e; subst e
              have e := h.kp 28 (by decide); simp only [List.getElem?_toArray, List.getElem?_cons_succ, List.getElem?_cons_zero, Option.some.injEq] at e; subst e
              have e := h.kp 29 (by decide); simp only [List.getElem?_toArray, List.getElem?_cons_succ, List.getElem?_cons_zero, Option.some.injEq] at e; subst e
              have e := h.kp 30 (by decide); simp only [List.getElem?_toArray, List.getElem?_cons_succ, List.getElem?_cons_zero, Option.some.injEq] at e; subst e
              have e := h.kp 31 (by decide); simp only [List.getElem?_toArray, List.getElem?_cons_succ, List.getElem?_cons_zero, Option.some.injEq] at e; subst e
              have e := h.kp 32 (by decide); simp only [List.getElem?_toArray, List.getElem?_cons_succ, List.getElem?_cons_zero, Option.some.injEq] at e; subst e
              have e := h.kp 43 (by decide); simp only [List.getElem?_toArray, List.getElem?_cons_succ, List.getElem?_cons_zero, Option.some.injEq] at e; subst e
              have e := h.kp 44 (by decide); simp only [List.getElem?_toArray, List.getElem?_cons_succ, List.getElem?_cons_zero, Option.some.injEq] at e; subst e
              have e := h.kp 45 (by decide); simp only [List.getElem?_toArray, List.getElem?_cons_succ, List.getElem?_cons_zero, Option.some.injEq] at e; subst e
              have e := h.kp 46 (by decide); simp only [List.getElem?_toArray, List.getElem?_cons_succ, List.getElem?_cons_zero, Option.some.injEq] at e; subst e
              have e := h.kp 47 (by decide); simp only [List.getElem?_toArray, List.getElem?_cons_succ, List.getElem?_cons_zero, Option.some.injEq] at e; subst e
              have e := h.p0 (hdn 0 (by omega)); simp only [List.getElem?_toArray, List.getElem?_cons_succ, List.getElem?_cons_zero, Option.some.injEq] at e; subst e
              have e := h.p1 (hdn 1 (by omega)); simp only [List.getElem?_toArray, List.getElem?_cons_succ, List.getElem?_cons_zero, Option.some.injEq] at e; subst e
              have e := h.p2 (hdn 2 (by omega)); simp only [List.getElem?_toArray, List.getElem?_cons_succ, List.getElem?_cons_zero, Option.some.injEq] at e; subst e
              have e := h.p3 (hdn 3 (by omega)); simp only [List.getElem?_toArray, List.getElem?_cons_succ, List.getElem?_cons_zero, Option.some.injEq] at e; subst e
              have e := h.p4 (hdn 4 (by omega)); simp only [List.getElem?_toArray, List.getElem?_cons_succ, List.getElem?_cons_zero, Option.some.injEq] at e; subst e
              have e := h.p5 (hdn 5 (by omega)); simp only [List.getElem?_toArray, List.getElem?_cons_succ, List.getElem?_cons_zero, Option.some.injEq] at e; subst e
              have e := h.p6 (hdn 6 (by omega)); simp only [List.getElem?_toArray, List.getElem?_cons_succ, List.getElem?_cons_zero, Option.some.injEq] at e; subst e
              have e := h.p7 (hdn 7 (by omega)); simp only [List.getElem?_toArray, List.getElem?_cons_succ, List.getElem?_cons_zero, Option.some.injEq] at e; subst e
              have e := h.p8 (hdn 8 (by omega)); simp only [List.getElem?_toArray, List.getElem?_cons_succ, List.getElem?_cons_zero, Option.some.injEq] at e; subst e
              have e := h.p9 (hdn 9 (by omega)); simp only [List.getElem?_toArray, List.getElem?_cons_succ, List.getElem?_cons_zero, Option.some.injEq] at e; subst e
              have hbc := h.bel
              clear h hdn hall
              go_wp2_with fail
              go_meet
              go_light
              exact ⟨rfl, hbc⟩

          case rest =>
            rename World => wk
            obtain ⟨rfl, hbk⟩ := hcut
            have HBK := Lib.hid (HBEL.out.trans (hbk.mono hwsz))
            have hsk : wr.heap.size ≤ wk.heap.size := hbk.size
            obtain ⟨m0, m1, m2, m3, m4, m5, x0, x1, x2⟩ := CL.out wk hbk
            have HBOXK := Lib.hid ((hbk.block w2.heap.size (by omega)).trans HBOX.out)
            have HRFK := Lib.hid (HRF.out.keep (w' := wk) (ok' := fun b => b < w2.heap.size ∧ w.heap.size + 2 ≤ b) fun b hb => ⟨hb, hbk.block b (by omega)⟩)
            have HRMK := Lib.hid (HRM.out.keep (w' := wk) (ok' := fun b => b < w2.heap.size ∧ w.heap.size + 2 ≤ b) fun b hb => ⟨hb, hbk.block b (by omega)⟩)
            clear hbk y0 y1 y2
            by_cases hh : Lx.heavyV x f < Lx.heavyV x m
            · have HN : Hid (f = Lx.leastL x f0 (l.take (k + 1))) := Lib.hid (by
                rw [Lx.leastL_succ (x := x) (b := f0) HFR.out, ← HM.out]
                unfold Lx.lighter
                rw [if_pos hh])
              have hd : decide (Lx.heavyV x f < Lx.heavyV x m) = true := by simp [hh]
              rw [hd]
              have f0' : wk.frozen? ⟨w2.heap.size, 0, none⟩ = false := by simp [World.frozen?, HBOXK.out]
              have f1' : wk.frozen? ⟨w2.heap.size, 1, none⟩ = false := by simp [World.frozen?, HBOXK.out]
              have f2' : wk.frozen? ⟨w2.heap.size, 2, none⟩ = false := by simp [World.frozen?, HBOXK.out]
              have HB8 : Hid (Below w2.heap.size w2 (((wk.setCell ⟨w2.heap.size, 0, none⟩ (.int .i64 f.entry)).setCell ⟨w2.heap.size, 1, none⟩ (.int .i64 f.ending)).setCell ⟨w2.heap.size, 2, none⟩ (.slice Sf f.clitics.length kf))) := Lib.hid (((HBK.out.setCell (by simp) _).setCell (by simp) _).setCell (by simp) _)
              have HK8 : Hid (∀ b, b < w2.heap.size → (((wk.setCell ⟨w2.heap.size, 0, none⟩ (.int .i64 f.entry)).setCell ⟨w2.heap.size, 1, none⟩ (.int .i64 f.ending)).setCell ⟨w2.heap.size, 2, none⟩ (.slice Sf f.clitics.length kf)).heap[b]? = wk.heap[b]?) := Lib.hid fun b hb => by
                have h1 : ¬ w2.heap.size = b := by omega
                simp [World.setCell, Array.getElem?_modify, h1]
              have HX8 : Hid ((((wk.setCell ⟨w2.heap.size, 0, none⟩ (.int .i64 f.entry)).setCell ⟨w2.heap.size, 1, none⟩ (.int .i64 f.ending)).setCell ⟨w2.heap.size, 2, none⟩ (.slice Sf f.clitics.length kf)).heap[w2.heap.size]? = some (.cells #[.int .i64 f.entry, .int .i64 f.ending, .slice Sf f.clitics.length kf] 29 (0, 0))) := Lib.hid (by
                simp [World.setCell, Array.getElem?_modify, HBOXK.out])
              have HR8 : Hid (RdX (((wk.setCell ⟨w2.heap.size, 0, none⟩ (.int .i64 f.entry)).setCell ⟨w2.heap.size, 1, none⟩ (.int .i64 f.ending)).setCell ⟨w2.heap.size, 2, none⟩ (.slice Sf f.clitics.length kf)) (fun b => b < w2.heap.size ∧ w.heap.size + 2 ≤ b) 1 encInt (.slice Sf f.clitics.length kf) f.clitics) := Lib.hid (HRFK.out.keep fun b hb => ⟨hb, HK8.out b hb.1⟩)
              clear hh hd
              go_wp2_with fail
              go_roundg (l.length - (k + 1))
              case measure => omega
              case rel => exact ⟨k + 1, f, by omega, rfl, by go_num, HN.out, HB8.out, by simp [World.setCell]; omega, _, HX8.out, HR8.out⟩
            · have HN : Hid (m = Lx.leastL x f0 (l.take (k + 1))) := Lib.hid (by
                rw [Lx.leastL_succ (x := x) (b := f0) HFR.out, ← HM.out]
                unfold Lx.lighter
                rw [if_neg hh])
              have hd : decide (Lx.heavyV x f < Lx.heavyV x m) = false := by simpa using hh
              rw [hd]
              clear hh hd
              go_wp2_with fail
              go_roundg (l.length - (k + 1))
              case measure => omega
              case rel => exact ⟨k + 1, m, by omega, rfl, by go_num, HN.out, HBK.out, by omega, _, HBOXK.out, HRMK.out⟩
        · have HMF : Hid (m = Lx.leastL x f0 r) := Lib.hid (by rw [HM.out, List.take_of_length_le (by omega), HL.out, Lx.leastL_self])
          have hltI : ¬ (k : Int) < (l.length : Int) := by omega
          have m3 : wr.cell? ⟨w2.heap.size, 0, none⟩ = some (.int .i64 m.entry) := by simp [World.cell?, hbox]
          have m4 : wr.cell? ⟨w2.heap.size, 1, none⟩ = some (.int .i64 m.ending) := by simp [World.cell?, hbox]
          have m5 : wr.cell? ⟨w2.heap.size, 2, none⟩ = some (.slice Sm m.clitics.length km) := by simp [World.cell?, hbox]
          have r0 : wr.cell? ⟨w.heap.size + 1, 0, none⟩ = some (.int .i64 0) := by simp [World.cell?, HRr.out]
          have r1 : wr.cell? ⟨w.heap.size + 1, 1, none⟩ = some (.int .i64 0) := by simp [World.cell?, HRr.out]
          have r2 : wr.cell? ⟨w.heap.size + 1, 2, none⟩ = some (.slice none 0 0) := by simp [World.cell?, HRr.out]
          have z0 : wr.frozen? ⟨w.heap.size + 1, 0, none⟩ = false := by simp [World.frozen?, HRr.out]
          have z1 : wr.frozen? ⟨w.heap.size + 1, 1, none⟩ = false := by simp [World.frozen?, HRr.out]
          have z2 : wr.frozen? ⟨w.heap.size + 1, 2, none⟩ = false := by simp [World.frozen?, HRr.out]
          have hwsz := hbel.size
          have HB9 : Hid (Below w.heap.size w (((wr.setCell ⟨w.heap.size + 1, 0, none⟩ (.int .i64 m.entry)).setCell ⟨w.heap.size + 1, 1, none⟩ (.int .i64 m.ending)).setCell ⟨w.heap.size + 1, 2, none⟩ (.slice Sm m.clitics.length km))) := Lib.hid ((((HB2.out.trans (HBEL.out.mono HB2.out.size)).setCell (by simp) _).setCell (by simp) _).setCell (by simp) _)
          have HR9 : Hid (RdX (((wr.setCell ⟨w.heap.size + 1, 0, none⟩ (.int .i64 m.entry)).setCell ⟨w.heap.size + 1, 1, none⟩ (.int .i64 m.ending)).setCell ⟨w.heap.size + 1, 2, none⟩ (.slice Sm m.clitics.length km)) (fun b => b < (((wr.setCell ⟨w.heap.size + 1, 0, none⟩ (.int .i64 m.entry)).setCell ⟨w.heap.size + 1, 1, none⟩ (.int .i64 m.ending)).setCell ⟨w.heap.size + 1, 2, none⟩ (.slice Sm m.clitics.length km)).heap.size ∧ w.heap.size ≤ b) 1 encInt (.slice Sm m.clitics.length km) m.clitics) := Lib.hid (HRM.out.keep fun b hb => ⟨⟨by simp [World.setCell]; omega, by omega⟩, by
            have h1 : ¬ w.heap.size + 1 = b := by omega
            simp [World.setCell, Array.getElem?_modify, h1]⟩)
          clear hbox hbel
          go_wp2_with fail
          refine bodyPost_ret (v := .tuple #[.agg #[.int .i64 m.entry, .int .i64 m.ending, .slice Sm m.clitics.length km], .int .i64 0]) (by simp [results, Tryd.results39, go_sem, r0, r1, r2]) rfl ⟨_, ret_vi HF.out.1.symm, ?_, HB9.out⟩
          rw [HF.out.2, ← HMF.out]
          exact ⟨_, rfl, HR9.out⟩
  · have hq : (cv == 0) = false := by simp [hz]
    have hq' : (cv != 0) = true := by simp [hz]
    have HF := Lib.hid (HNB.out hz)
    have r0 : w1.cell? ⟨w.heap.size + 1, 0, none⟩ = some (.int .i64 0) := by simp [World.cell?, HRw1.out]
    have r1 : w1.cell? ⟨w.heap.size + 1, 1, none⟩ = some (.int .i64 0) := by simp [World.cell?, HRw1.out]
    have r2 : w1.cell? ⟨w.heap.size + 1, 2, none⟩ = some (.slice none 0 0) := by simp [World.cell?, HRw1.out]
    have z0 : w1.frozen? ⟨w.heap.size + 1, 0, none⟩ = false := by simp [World.frozen?, HRw1.out]
    have z1 : w1.frozen? ⟨w.heap.size + 1, 1, none⟩ = false := by simp [World.frozen?, HRw1.out]
    have z2 : w1.frozen? ⟨w.heap.size + 1, 2, none⟩ = false := by simp [World.frozen?, HRw1.out]
    have HB9 : Hid (Below w.heap.size w (((w1.setCell ⟨w.heap.size + 1, 0, none⟩ (.int .i64 0)).setCell ⟨w.heap.size + 1, 1, none⟩ (.int .i64 0)).setCell ⟨w.heap.size + 1, 2, none⟩ (.slice none 0 0))) := Lib.hid (((HB1.out.setCell (by simp) _).setCell (by simp) _).setCell (by simp) _)
    clear hz
    go_wp2_with fail
    refine bodyPost_ret (v := .tuple #[.agg #[.int .i64 0, .int .i64 0, .slice none 0 0], .int .i64 cv]) (by simp [results, Tryd.results39, go_sem, r0, r1, r2]) rfl ⟨_, ret_vi HF.out.1.symm, ?_, HB9.out⟩
    rw [HF.out.2]
    exact ⟨_, rfl, none, 0, rfl, by simp, by simp, fun h => absurd h (by simp)⟩
end Go.Proofs.YtpmfjndbckblfaaDoor
