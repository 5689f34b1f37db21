/- lexicon.stem, ostraconref05.stem, lexicon.speech. -/
import Derived.Test.YtpmfjndbckblfaaDoorMatch
import Derived.Test.YtpmfjndbckblfaaDoorCheck
namespace Go.Proofs.YtpmfjndbckblfaaDoor
open Go.RowKit

def RetS (s : ByteArray) (w : World) (e : Ending) (w' : World) : Prop := e = .returned (.string s) ∧ Below w.heap.size w w'
theorem ret_str {s t : ByteArray} (h : s = t) : Ending.returned (.string s) = .returned (.string t) := by rw [h]

set_option maxRecDepth 100000 in
set_option maxHeartbeats 1000000 in
theorem stem_any (v vf : Value) (x : Lx.Lexicon) (f : Lx.Form) (w : World) (hr : RdL w w.heap.size v x) (hf : RdF w w.heap.size vf f) (hchk : Lx.checkV x = 0) (hfit : Lx.Fits x f) :
    Calls Tryd.prog 73 #[v, vf] w (RetS (Lx.stemV x f) w) := by
  obtain ⟨⟨v0, v1, v2, rfl, ⟨A0, c0, rfl, hl0, hm0, hc0⟩, ⟨A1, c1, rfl, hl1, hm1, hc1⟩, ⟨A2, c2, rfl, hl2, hm2, -⟩⟩, -, -, -⟩ := hr
  obtain ⟨⟨sf, rfl, ⟨A3, c3, rfl, -⟩⟩⟩ := hf
  have hn0 : x.entries.length ≤ 9223372036854775807 := by omega
  have hn1 : x.endings.length ≤ 9223372036854775807 := by omega
  clear hl0 hl1 hl2 hm0 hm1 hm2
  have hpar := Lx.check_parts hchk
  obtain ⟨hlo, hhi⟩ := hfit.ent
  obtain ⟨b, off, rfl, hb, hcell⟩ := hc0 (by omega)
  obtain ⟨e, he⟩ : ∃ e, x.entries[f.entry.toNat]? = some e := ⟨_, List.getElem?_eq_getElem (by omega)⟩
  obtain ⟨_, hr8, _⟩ := Lx.ok_entry (Lx.good_at hpar.2.1 he)
  have f0 : w.cell? ⟨b, off + f.entry.toNat * 4, none⟩ = some (.string e.root) := hcell _ e he 0 _ rfl
  have HBX : Hid (∀ A B : Obj, Below w.heap.size w ((w.alloc A).alloc B)) := Lib.hid fun A B => ((Below.refl _ _).alloc (Nat.le_refl _) _).alloc (by simp) _
  clear hcell hchk
  by_cases hneg : f.ending < 0
  · have HF : Hid (Lx.stemV x f = e.root) := Lib.hid (by simp [Lx.stemV, he, hneg])
    clear he hpar hfit hc1
    go_enter Tryd.func73, Tryd.ntmps73
    go_wp2_with fail
    go_ret
    exact ⟨ret_str HF.out.symm, HBX.out _ _⟩
  · have hge : 0 ≤ f.ending := by omega
    have hlt1 : f.ending < (x.endings.length : Int) := by have := hfit.fin; omega
    obtain ⟨b1, off1, rfl, hb1, hcell1⟩ := hc1 (by omega)
    obtain ⟨g, hg⟩ : ∃ g, x.endings[f.ending.toNat]? = some g := ⟨_, List.getElem?_eq_getElem (by omega)⟩
    obtain ⟨_, ht4, _⟩ := Lx.ok_ending (Lx.good_at hpar.2.2.1 hg)
    have g1 : w.cell? ⟨b1, off1 + f.ending.toNat * 4 + 1, none⟩ = some (.string g.text) := hcell1 _ g hg 1 _ rfl
    have HF : Hid (Lx.stemV x f = e.root ++ g.text) := Lib.hid (by simp [Lx.stemV, he, hneg, hg])
    clear he hpar hfit hg hcell1 hneg
    go_enter Tryd.func73, Tryd.ntmps73
    go_wp2_with fail
    go_ret
    exact ⟨ret_str HF.out.symm, HBX.out _ _⟩

set_option maxRecDepth 100000 in
set_option maxHeartbeats 1000000 in
theorem rstem_any (v vf : Value) (x : Lx.Lexicon) (f : Lx.Form) (w : World) (hr : RdL w w.heap.size v x) (hf : RdF w w.heap.size vf f) (hchk : Lx.checkV x = 0) (hfit : Lx.Fits x f) :
    Calls Tryd.prog 74 #[v, vf] w (RetS (Lx.stemV x f) w) := by
  obtain ⟨⟨v0, v1, v2, rfl, ⟨A0, c0, rfl, hl0, hm0, hc0⟩, ⟨A1, c1, rfl, hl1, hm1, hc1⟩, ⟨A2, c2, rfl, hl2, hm2, -⟩⟩, -, -, -⟩ := hr
  obtain ⟨⟨sf, rfl, ⟨A3, c3, rfl, -⟩⟩⟩ := hf
  have hn0 : x.entries.length ≤ 9223372036854775807 := by omega
  have hn1 : x.endings.length ≤ 9223372036854775807 := by omega
  clear hl0 hl1 hl2 hm0 hm1 hm2
  have hpar := Lx.check_parts hchk
  obtain ⟨hlo, hhi⟩ := hfit.ent
  obtain ⟨b, off, rfl, hb, hcell⟩ := hc0 (by omega)
  obtain ⟨e, he⟩ : ∃ e, x.entries[f.entry.toNat]? = some e := ⟨_, List.getElem?_eq_getElem (by omega)⟩
  obtain ⟨_, hr8, _⟩ := Lx.ok_entry (Lx.good_at hpar.2.1 he)
  have f0 : w.cell? ⟨b, off + f.entry.toNat * 4, none⟩ = some (.string e.root) := hcell _ e he 0 _ rfl
  have HBX : Hid (∀ A B : Obj, Below w.heap.size w ((w.alloc A).alloc B)) := Lib.hid fun A B => ((Below.refl _ _).alloc (Nat.le_refl _) _).alloc (by simp) _
  clear hcell hchk
  by_cases hneg : f.ending < 0
  · have HF : Hid (Lx.stemV x f = e.root) := Lib.hid (by simp [Lx.stemV, he, hneg])
    clear he hpar hfit hc1
    go_enter Tryd.func74, Tryd.ntmps74
    go_wp2_with fail
    go_ret
    exact ⟨ret_str HF.out.symm, HBX.out _ _⟩
  · have hge : 0 ≤ f.ending := by omega
    have hlt1 : f.ending < (x.endings.length : Int) := by have := hfit.fin; omega
    obtain ⟨b1, off1, rfl, hb1, hcell1⟩ := hc1 (by omega)
    obtain ⟨g, hg⟩ : ∃ g, x.endings[f.ending.toNat]? = some g := ⟨_, List.getElem?_eq_getElem (by omega)⟩
    obtain ⟨_, ht4, _⟩ := Lx.ok_ending (Lx.good_at hpar.2.2.1 hg)
    have g1 : w.cell? ⟨b1, off1 + f.ending.toNat * 4 + 1, none⟩ = some (.string g.text) := hcell1 _ g hg 1 _ rfl
    have HF : Hid (Lx.stemV x f = e.root ++ g.text) := Lib.hid (by simp [Lx.stemV, he, hneg, hg])
    clear he hpar hfit hg hcell1 hneg
    go_enter Tryd.func74, Tryd.ntmps74
    go_wp2_with fail
    go_ret
    exact ⟨ret_str HF.out.symm, HBX.out _ _⟩

def Lx.speechV (x : Lx.Lexicon) (s : ByteArray) : Int := if Lx.checkV x ≠ 0 then Lx.checkV x else if Lx.soundsB s 64 = false then 4 else 0

set_option maxRecDepth 100000 in
set_option maxHeartbeats 1000000 in
theorem speech_any (v : Value) (x : Lx.Lexicon) (s : ByteArray) (w : World) (hr : RdL w w.heap.size v x) (hs : s.size ≤ maxLen) : Calls Tryd.prog 64 #[v, .string s] w (RetIB (Lx.speechV x s) w) := by
  have HCK : Hid (∀ (W : World), Below w.heap.size w W → Calls Tryd.prog 14 #[v] W (RetIB (Lx.checkV x) W)) := Lib.hid fun W hW => Check_any v x W ((hr.below hW).more hW.size)
  obtain ⟨⟨v0, v1, v2, rfl, ⟨A0, c0, rfl, -⟩, ⟨A1, c1, rfl, -⟩, ⟨A2, c2, rfl, -⟩⟩, -, -, -⟩ := hr
  generalize hcv : Lx.checkV x = cv at HCK
  have HV := Lib.hid hcv
  clear hcv
  go_enter Tryd.func64, Tryd.ntmps64
  go_wp2_with fail
  refine (HCK.out _ ((Below.refl _ _).alloc (Nat.le_refl _) _)).mono ?_
  rintro e1 w1 ⟨rfl, hb1⟩
  have HB1 := Lib.hid (((Below.refl w.heap.size w).alloc (Nat.le_refl _) _).trans (hb1.mono (by simp)))
  clear hb1
  by_cases hz : cv = 0
  · have hq : (cv == 0) = true := by simp [hz]
    have hq' : (cv != 0) = false := by simp [hz]
    have HZ := Lib.hid hz
    clear hz
    cases hso : Lx.soundsB s 64
    · have HF : Hid (Lx.speechV x s = 4) := Lib.hid (by unfold Lx.speechV; rw [HV.out, HZ.out, hso]; rfl)
      have HS := Lib.hid hso
      clear hso
      go_wp2_with fail
      refine (sounds_any _ _ _ hs).mono ?_
      rw [HS.out]
      rintro e2 w2 ⟨rfl, hb2⟩
      have HB2 := Lib.hid (HB1.out.trans (hb2.mono HB1.out.size))
      clear hb2
      go_wp2_with fail
      go_ret
      exact ⟨ret_int HF.out.symm, HB2.out⟩
    · have HF : Hid (Lx.speechV x s = 0) := Lib.hid (by unfold Lx.speechV; rw [HV.out, HZ.out, hso]; rfl)
      have HS := Lib.hid hso
      clear hso
      go_wp2_with fail
      refine (sounds_any _ _ _ hs).mono ?_
      rw [HS.out]
      rintro e2 w2 ⟨rfl, hb2⟩
      have HB2 := Lib.hid (HB1.out.trans (hb2.mono HB1.out.size))
      clear hb2
      go_wp2_with fail
      go_ret
      exact ⟨ret_int HF.out.symm, HB2.out⟩
  · have hq : (cv == 0) = false := by simp [hz]
    have hq' : (cv != 0) = true := by simp [hz]
    have HF : Hid (Lx.speechV x s = cv) := Lib.hid (by unfold Lx.speechV; rw [HV.out, if_pos hz])
    clear hz
    go_wp2_with fail
    go_ret
    exact ⟨ret_int HF.out.symm, HB1.out⟩
end Go.Proofs.YtpmfjndbckblfaaDoor
