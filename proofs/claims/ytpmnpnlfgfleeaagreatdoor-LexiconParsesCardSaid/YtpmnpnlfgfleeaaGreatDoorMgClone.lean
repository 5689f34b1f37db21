/- lexicon.stem, ostraconref05.stem, lexicon.speech. slices.Clone at []int, for every slice that reads as a list. -/
import Derived.Test.YtpmnpnlfgfleeaaGreatDoorMgMatch
import Derived.Test.YtpmnpnlfgfleeaaGreatDoorMgCheck
namespace Go.Proofs.YtpmnpnlfgfleeaaGreatDoor
open Go.RowKit

def RetS (s : ByteArray) (w : World) (e : Ending) (w' : World) : Prop := e = .returned (.string s) ∧ Below w.heap.size w w'
theorem ret_str {s t : ByteArray} (h : s = t) : Ending.returned (.string s) = .returned (.string t) := by rw [h]

set_option maxRecDepth 100000 in
set_option maxHeartbeats 1000000 in
theorem stem_any (v vf : Value) (x : Lx.Lexicon) (f : Lx.Form) (w : World) (hr : RdL w w.heap.size v x) (hf : RdF w w.heap.size vf f) (hchk : Lx.checkV x = 0) (hfit : Lx.Fits x f) :
    Calls Tryz.prog 66 #[v, vf] w (RetS (Lx.stemV x f) w) := by
  obtain ⟨⟨v0, v1, v2, rfl, ⟨A0, c0, rfl, hl0, hm0, hc0⟩, ⟨A1, c1, rfl, hl1, hm1, hc1⟩, ⟨A2, c2, rfl, hl2, hm2, -⟩⟩, -, -, -⟩ := hr
  obtain ⟨⟨sf, rfl, ⟨A3, c3, rfl, -⟩⟩⟩ := hf
  have hn0 : x.entries.length ≤ 9223372036854775807 := by omega
  have hn1 : x.endings.length ≤ 9223372036854775807 := by omega
  clear hl0 hl1 hl2 hm0 hm1 hm2
  have hpar := Lx.check_parts hchk
  obtain ⟨hlo, hhi⟩ := hfit.ent
  obtain ⟨b, off, rfl, hb, hcell⟩ := hc0 (by omega)
  obtain ⟨e, he⟩ : ∃ e, x.entries[f.entry.toNat]? = some e := ⟨_, List.getElem?_eq_getElem (by omega)⟩
  obtain ⟨_, hr8, _⟩ := Lx.ok_entry (Lx.good_at hpar.2.1 he)
  have f0 : w.cell? ⟨b, off + f.entry.toNat * 4, none⟩ = some (.string e.root) := hcell _ e he 0 _ rfl
  have HBX : Hid (∀ A B : Obj, Below w.heap.size w ((w.alloc A).alloc B)) := Lib.hid fun A B => ((Below.refl _ _).alloc (Nat.le_refl _) _).alloc (by simp) _
  clear hcell hchk
  by_cases hneg : f.ending < 0
  · have HF : Hid (Lx.stemV x f = e.root) := Lib.hid (by simp [Lx.stemV, he, hneg])
    clear he hpar hfit hc1
    go_enter Tryz.func66, Tryz.ntmps66
    go_wp2_with fail
    go_ret
    exact ⟨ret_str HF.out.symm, HBX.out _ _⟩
  · have hge : 0 ≤ f.ending := by omega
    have hlt1 : f.ending < (x.endings.length : Int) := by have := hfit.fin; omega
    obtain ⟨b1, off1, rfl, hb1, hcell1⟩ := hc1 (by omega)
    obtain ⟨g, hg⟩ : ∃ g, x.endings[f.ending.toNat]? = some g := ⟨_, List.getElem?_eq_getElem (by omega)⟩
    obtain ⟨_, ht4, _⟩ := Lx.ok_ending (Lx.good_at hpar.2.2.1 hg)
    have g1 : w.cell? ⟨b1, off1 + f.ending.toNat * 4 + 1, none⟩ = some (.string g.text) := hcell1 _ g hg 1 _ rfl
    have HF : Hid (Lx.stemV x f = e.root ++ g.text) := Lib.hid (by simp [Lx.stemV, he, hneg, hg])
    clear he hpar hfit hg hcell1 hneg
    go_enter Tryz.func66, Tryz.ntmps66
    go_wp2_with fail
    go_ret
    exact ⟨ret_str HF.out.symm, HBX.out _ _⟩


def Lx.speechV (x : Lx.Lexicon) (s : ByteArray) : Int := if Lx.checkV x ≠ 0 then Lx.checkV x else if Lx.soundsB s 64 = false then 4 else 0

set_option maxRecDepth 100000 in
set_option maxHeartbeats 1000000 in
theorem speech_any (v : Value) (x : Lx.Lexicon) (s : ByteArray) (w : World) (hr : RdL w w.heap.size v x) (hs : s.size ≤ maxLen) : Calls Tryz.prog 41 #[v, .string s] w (RetIB (Lx.speechV x s) w) := by
  have HCK : Hid (∀ (W : World), Below w.heap.size w W → Calls Tryz.prog 33 #[v] W (RetIB (Lx.checkV x) W)) := Lib.hid fun W hW => Check_any v x W ((hr.below hW).more hW.size)
  obtain ⟨⟨v0, v1, v2, rfl, ⟨A0, c0, rfl, -⟩, ⟨A1, c1, rfl, -⟩, ⟨A2, c2, rfl, -⟩⟩, -, -, -⟩ := hr
  generalize hcv : Lx.checkV x = cv at HCK
  have HV := Lib.hid hcv
  clear hcv
  go_enter Tryz.func41, Tryz.ntmps41
  go_wp2_with fail
  refine (HCK.out _ ((Below.refl _ _).alloc (Nat.le_refl _) _)).mono ?_
  rintro e1 w1 ⟨rfl, hb1⟩
  have HB1 := Lib.hid (((Below.refl w.heap.size w).alloc (Nat.le_refl _) _).trans (hb1.mono (by simp)))
  clear hb1
  by_cases hz : cv = 0
  · have hq : (cv == 0) = true := by simp [hz]
    have hq' : (cv != 0) = false := by simp [hz]
    have HZ := Lib.hid hz
    clear hz
    cases hso : Lx.soundsB s 64
    · have HF : Hid (Lx.speechV x s = 4) := Lib.hid (by unfold Lx.speechV; rw [HV.out, HZ.out, hso]; rfl)
      have HS := Lib.hid hso
      clear hso
      go_wp2_with fail
      refine (sounds_any _ _ _ hs).mono ?_
      rw [HS.out]
      rintro e2 w2 ⟨rfl, hb2⟩
      have HB2 := Lib.hid (HB1.out.trans (hb2.mono HB1.out.size))
      clear hb2
      go_wp2_with fail
      go_ret
      exact ⟨ret_int HF.out.symm, HB2.out⟩
    · have HF : Hid (Lx.speechV x s = 0) := Lib.hid (by unfold Lx.speechV; rw [HV.out, HZ.out, hso]; rfl)
      have HS := Lib.hid hso
      clear hso
      go_wp2_with fail
      refine (sounds_any _ _ _ hs).mono ?_
      rw [HS.out]
      rintro e2 w2 ⟨rfl, hb2⟩
      have HB2 := Lib.hid (HB1.out.trans (hb2.mono HB1.out.size))
      clear hb2
      go_wp2_with fail
      go_ret
      exact ⟨ret_int HF.out.symm, HB2.out⟩
  · have hq : (cv == 0) = false := by simp [hz]
    have hq' : (cv != 0) = true := by simp [hz]
    have HF : Hid (Lx.speechV x s = cv) := Lib.hid (by unfold Lx.speechV; rw [HV.out, if_pos hz])
    clear hz
    go_wp2_with fail
    go_ret
    exact ⟨ret_int HF.out.symm, HB1.out⟩
end Go.Proofs.YtpmnpnlfgfleeaaGreatDoor
namespace Go.Proofs.YtpmnpnlfgfleeaaGreatDoor
open Go.RowKit

theorem flat_int (cs : List Int) : cs.flatMap encInt = cs.map (Value.int .i64) := by
  induction cs with
  | nil => rfl
  | cons c r ih => rw [List.flatMap_cons, List.map_cons, ih]; rfl

theorem cloneInt_any (v : Value) (cs : List Int) (w : World) (B : Nat) (h : RdS w B 1 encInt v cs) (hlen : cs.length ≤ 1000000) :
    Calls Tryz.prog 65 #[v] w (fun e w' => ∃ v', e = .returned v' ∧ w'.ownsRow w.heap.size 3 1 v' cs.length (cs.flatMap encInt) ∧ Below w.heap.size w w') := by
  obtain ⟨A, c, rfl, hl, hc, hh⟩ := h
  cases A with
  | none =>
    have h0 : cs = [] := by
      cases cs with
      | nil => rfl
      | cons y r =>
        obtain ⟨b, off, h, _⟩ := hh (by simp)
        cases h
    subst h0
    refine (Tryz.slices_Clone_int_nil _ _ w).mono ?_
    rintro e w' ⟨rfl, rfl⟩
    exact ⟨_, rfl, World.ownsRow_nil _ _ _ _, Below.refl _ _⟩
  | some a =>
    by_cases h0 : cs.length = 0
    · have h0' : cs = [] := List.eq_nil_of_length_eq_zero h0
      subst h0'
      refine (Tryz.slices_Clone_int_zero _ _ w).mono ?_
      rintro e w' ⟨v', rfl, hown, _, hb⟩
      exact ⟨_, rfl, hown, hb⟩
    · obtain ⟨b, off, hA, _, hcell⟩ := hh (by omega)
      cases hA
      refine (Tryz.slices_Clone_int b off cs.length c cs w (Nat.le_refl _) (by omega) (fun j hj => ?_)).mono ?_
      · have := hcell j cs[j] (List.getElem?_eq_getElem hj) 0 _ rfl
        rw [List.getD_eq_getElem?_getD, List.getElem?_eq_getElem hj]
        simpa using this
      · rintro e w' ⟨v', rfl, hown, _, hb⟩
        refine ⟨_, rfl, ?_, hb⟩
        rw [flat_int]
        simpa using hown
end Go.Proofs.YtpmnpnlfgfleeaaGreatDoor
