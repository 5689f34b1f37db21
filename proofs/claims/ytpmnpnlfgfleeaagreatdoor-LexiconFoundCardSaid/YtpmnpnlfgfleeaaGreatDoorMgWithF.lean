/- lexicon.with: all forms whose sounds are a line. ostraconref05.speech, lexicon.With, ostraconref05.With. Made by gen_withf.py. -/
import Derived.Test.YtpmnpnlfgfleeaaGreatDoorMgTable
import Derived.Test.YtpmnpnlfgfleeaaGreatDoorMgRTails
import Derived.Test.YtpmnpnlfgfleeaaGreatDoorMgCutsPlain
import Derived.Test.YtpmnpnlfgfleeaaGreatDoorMgRWith
import Derived.Test.YtpmnpnlfgfleeaaGreatDoorMgCuts
import Derived.Test.YtpmnpnlfgfleeaaGreatDoorMgRCheck
namespace Go.Proofs.YtpmnpnlfgfleeaaGreatDoor
open Go.RowKit

def Lx.withL (l : List Lx.Match) (n : Nat) : List Lx.Form := (l.filter fun m => decide (m.long = n)).map Lx.Match.form
def Lx.withV (x : Lx.Lexicon) (s : ByteArray) : List Lx.Form := Lx.withL (Lx.matchesV x s) s.size
theorem Lx.withL_yes {l : List Lx.Match} {n k : Nat} {m : Lx.Match} (h : l[k]? = some m) (hm : m.long = n) : Lx.withL (l.take (k + 1)) n = Lx.withL (l.take k) n ++ [m.form] := by
  obtain ⟨hb, rfl⟩ := List.getElem?_eq_some_iff.1 h
  unfold Lx.withL
  rw [List.take_succ_eq_append_getElem hb, List.filter_append, List.map_append]
  simp [hm]
theorem Lx.withL_no {l : List Lx.Match} {n k : Nat} {m : Lx.Match} (h : l[k]? = some m) (hm : m.long ≠ n) : Lx.withL (l.take (k + 1)) n = Lx.withL (l.take k) n := by
  obtain ⟨hb, rfl⟩ := List.getElem?_eq_some_iff.1 h
  unfold Lx.withL
  rw [List.take_succ_eq_append_getElem hb, List.filter_append, List.map_append]
  simp [hm]

set_option maxRecDepth 100000 in
set_option maxHeartbeats 4000000 in
theorem with_any (x : Lx.Lexicon) (s : ByteArray) (hchk : Lx.checkV x = 0) (hs : s.size ≤ 1000) (vx : Value) (w : World) (hr : RdL w w.heap.size vx x) :
    Calls Tryz.prog 42 #[vx, .string s] w (fun e w' => ∃ v, e = .returned v ∧ OwnG KForm 29 w' w.heap.size v (Lx.withV x s) ∧ Below w.heap.size w w') := by
  have HM : Hid (∀ (W : World), Below w.heap.size w W → Calls Tryz.prog 78 #[vx, .string s] W (fun e w' => ∃ v, e = .returned v ∧ OwnM w' W.heap.size v (Lx.matchesV x s) ∧ Below W.heap.size W w')) :=
    Lib.hid fun W hW => matches_any x s hchk hs vx W ((hr.below hW).more hW.size)
  obtain ⟨ht0, ht1, ht2⟩ := Lx.tooMany_no (Lx.check_parts hchk).1
  have hml := Lx.matchesN_len x s ht2 ht1 x.entries.length
  obtain ⟨⟨v0, v1, v2, rfl, ⟨A0, c0, rfl, -⟩, ⟨A1, c1, rfl, -⟩, ⟨A2, c2, rfl, -⟩⟩, -, -, -⟩ := hr
  have hs0 : s.size ≤ 9223372036854775807 := by omega
  obtain ⟨i3, hi3, hz3, hs3', hb3'⟩ := info_parts info_Form
  go_enter Tryz.func42, Tryz.ntmps42
  go_wp2_with fail
  have hal : Below w.heap.size w (w.alloc (.cells #[.slice A0 x.entries.length c0, .slice A1 x.endings.length c1, .slice A2 x.clitics.length c2] 26)) := (Below.refl _ _).alloc (Nat.le_refl _) _
  refine (HM.out _ hal).mono ?_
  rintro e1 w1 ⟨vm, rfl, hom, hb1⟩
  have HB1 := Lib.hid (hal.trans (hb1.mono hal.size))
  have hs1 : w.heap.size + 1 ≤ w1.heap.size := by have := hb1.size; simp at this; omega
  have hrd := (rdms_of_own hom).keep (w' := w1) (ok' := fun b => b < w1.heap.size ∧ w.heap.size ≤ b) (fun b hb => ⟨⟨hb.1, by have := hb.2; simp at this; omega⟩, rfl⟩)
  obtain ⟨ms, hms⟩ : ∃ ms, ms = Lx.matchesV x s := ⟨_, rfl⟩
  rw [← hms] at hrd
  have HMS := Lib.hid hms
  have hmsl : ms.length ≤ 20000000 := by rw [hms]; unfold Lx.matchesV; exact Nat.le_trans hml (by have : x.entries.length * 54571 ≤ 200 * 54571 := Nat.mul_le_mul_right _ ht0; omega)
  obtain ⟨Am, cm, rfl⟩ := hrd.form
  have HRD := Lib.hid hrd
  clear hom hb1 hal hms hrd hml
  go_wp2_with fail
  go_loopg [5, 12] ms.length (fun g v i wr => ∃ k : Nat, k ≤ ms.length ∧ g = ms.length - k ∧ i = .int .i64 k ∧ (∃ A n c, v = .slice A n c) ∧ OwnG KForm 29 wr w.heap.size v (Lx.withL (ms.take k) s.size) ∧ Below w1.heap.size w1 wr ∧
    (∀ q, v.ownBlock = some q → w1.heap.size ≤ q))
  case atStart => exact ⟨0, Nat.zero_le _, rfl, rfl, ⟨_, _, _, rfl⟩, OwnG.nil _ _ _, Below.refl _ _, fun q hq => by simp [Value.ownBlock] at hq⟩
  case round =>
    obtain ⟨k, hk, rfl, rfl, ⟨Av, nv, cv, rfl⟩, hog, hbel, hvlt⟩ := hrel
    have HOG := Lib.hid hog
    have HBEL := Lib.hid hbel
    have hsz := hbel.size
    by_cases hlt : k < ms.length
    · obtain ⟨m, hmk⟩ : ∃ m, ms[k]? = some m := ⟨_, List.getElem?_eq_getElem hlt⟩
      obtain ⟨_, _, hve, hl1, hl2, hcell⟩ := HRD.out
      cases hve
      obtain ⟨bm, om, rfl, hbm, hcm⟩ := hcell (by omega)
      obtain ⟨q0, q1, ⟨sm, q2, hsm⟩, q3⟩ := hcm k m hmk
      have y0 := (hbel.cell (p := ⟨bm, om + k * 4, none⟩) hbm.1).trans q0
      have y1 := (hbel.cell (p := ⟨bm, om + k * 4 + 1, none⟩) hbm.1).trans q1
      have y2 := (hbel.cell (p := ⟨bm, om + k * 4 + 2, none⟩) hbm.1).trans q2
      have y3 := (hbel.cell (p := ⟨bm, om + k * 4 + 3, none⟩) hbm.1).trans q3
      have HSM := Lib.hid hsm
      obtain ⟨Ac, cc, rfl, -⟩ := hsm
      have HMK := Lib.hid hmk
      have hkI : (k : Int) < (ms.length : Int) := by omega
      clear hog hbel hcm hcell q0 q1 q2 q3 hmk
      by_cases hlong : m.long = s.size
      · have hq : ((m.long : Int) == (s.size : Int)) = true := by simp [hlong]
        have HN : Hid (Lx.withL (ms.take (k + 1)) s.size = Lx.withL (ms.take k) s.size ++ [m.form]) := Lib.hid (Lx.withL_yes HMK.out hlong)
        obtain ⟨cells, hownF, hrowsF⟩ := HOG.out
        have hfl : (Lx.withL (ms.take k) s.size).length ≤ 20000000 := by
          unfold Lx.withL
          rw [List.length_map]
          exact Nat.le_trans (List.length_filter_le _ _) (by rw [List.length_take]; omega)
        obtain rfl : nv = (Lx.withL (ms.take k) s.size).length := by
          obtain ⟨_, _, e⟩ := own_form hownF
          injection e
        obtain ⟨out, hout⟩ : ∃ out, out = Lx.withL (ms.take k) s.size := ⟨_, rfl⟩
        rw [← hout] at HN HOG hownF hrowsF hfl hvlt ⊢
        have HOWNF := Lib.hid hownF
        have HROWSF := Lib.hid hrowsF
        clear hownF hrowsF hlong hout
        go_wp2_with (at_builtin; go_must (refine wpList_append_rd (enc := enc3) rfl (.tmp 21) (.tmp 24) _ rfl w.heap.size 29 i3 _ 3 40 len_3 one_3 Tryz.underlying43 hi3 hz3 hs3' hb3' rfl (by decide) (.slice Av out.length cv) out.length cells rfl ?ho (wr.heap.size + 2) _ [(m.entry, m.ending, (Ac, m.clitics.length, cc))] rfl ?hr ?h63 ?hb ?hB ?_))
        case ho => exact World.ownsRow.kept HOWNF.out (grown_of_below (row := none) (((Below.refl _ _).alloc (Nat.le_refl _) _).alloc (by simp) _)) (by
          rcases HOWNF.out.2 with ⟨e, _⟩ | ⟨g, cap, cur, e, _⟩
          · rw [e]; exact .inl rfl
          · rw [e]; exact .inr (by simp [Value.ownBlock]))
        case hr =>
          have hn := heap_alloc_new (wr.alloc (.cells #[.int .i64 m.entry, .int .i64 m.ending, .slice Ac m.clitics.length cc, .int .i64 m.long] 87)) (.cells #[.int .i64 m.entry, .int .i64 m.ending, .slice Ac m.clitics.length cc] 29)
          rw [show (wr.alloc (.cells #[.int .i64 m.entry, .int .i64 m.ending, .slice Ac m.clitics.length cc, .int .i64 m.long] 87)).heap.size = wr.heap.size + 1 by simp] at hn
          exact rds_block (xs := [(m.entry, m.ending, (Ac, m.clitics.length, cc))]) len_3 hn rfl (by omega) (Nat.le_refl 1) (by decide)
        case h63 => simp only [maxLen]; show out.length + 1 ≤ _; omega
        case hb => show (out.length + 1) * 40 ≤ _; omega
        case hB => simp; omega
        intro v8 w8 hown8 hg8 hat8
        obtain ⟨A8, c8, rfl⟩ := own_form hown8
        obtain ⟨W7, hW7⟩ : ∃ W7, W7 = ((wr.alloc (.cells #[.int .i64 m.entry, .int .i64 m.ending, .slice Ac m.clitics.length cc, .int .i64 m.long] 87)).alloc (.cells #[.int .i64 m.entry, .int .i64 m.ending, .slice Ac m.clitics.length cc] 29)) := ⟨_, rfl⟩
        rw [← hW7] at hg8
        have hb7 : Below wr.heap.size wr W7 := by rw [hW7]; exact ((Below.refl _ _).alloc (Nat.le_refl _) _).alloc (by simp) _
        have hs7 : W7.heap.size = wr.heap.size + 2 := by rw [hW7]; simp
        have hvb : ∀ q, (Value.slice Av out.length cv).ownBlock = some q → w1.heap.size ≤ q ∧ q < wr.heap.size := fun q hq => ⟨hvlt q hq, (HOWNF.out.lt q hq).2⟩
        have HOF8 : Hid (OwnG KForm 29 w8 w.heap.size (.slice A8 (out.length + 1) c8) (Lx.withL (ms.take (k + 1)) s.size)) := Lib.hid (by
          rw [HN.out]
          refine OwnG.snoc (K := KForm) (w := W7) (v := .slice Av out.length cv) (cells := cells) (cs := [.int .i64 m.entry, .int .i64 m.ending, .slice Ac m.clitics.length cc]) ?_ ⟨_, rfl, ?_⟩ ?_ hg8 (hat8.imp id fun e => ⟨_, e, by omega⟩)
          · exact HROWSF.out.keep (fun b hb => ⟨⟨by omega, hb.2⟩, hb7.block b hb.1⟩)
          · exact HSM.out.keep (fun b hb => ⟨⟨by omega, (fun e => by have := (hvb _ e).1; omega), hb.2⟩, (hb7.block b (by omega)).trans (HBEL.out.block b hb.1)⟩)
          · have h8 : w8.ownsRow w.heap.size 29 3 (.slice A8 (out.length + 1) c8) (out.length + 1) (cells ++ [.int .i64 m.entry, .int .i64 m.ending, .slice Ac m.clitics.length cc]) := by simpa [enc3] using hown8
            exact h8)
        have HB8 : Hid (Below w1.heap.size w1 w8) := Lib.hid ((HBEL.out.trans (hb7.mono (by omega))).grown hg8 (by omega) (fun q hq => (hvb q hq).1))
        have hv8 : ∀ q, (Value.slice A8 (out.length + 1) c8).ownBlock = some q → w1.heap.size ≤ q := fun q hq => by
          rcases hat8 with e | e
          · rw [e] at hq; exact (hvb q hq).1
          · rw [e] at hq; cases hq; omega
        clear hown8 hg8 hat8 hW7 hb7 hs7 y0 y1 y2 y3
        go_wp2_with fail
        go_roundg (ms.length - (k + 1))
        case measure => omega
        case rel => exact ⟨k + 1, by omega, rfl, by go_num, ⟨_, _, _, rfl⟩, HOF8.out, HB8.out, hv8⟩
      · have hq : ((m.long : Int) == (s.size : Int)) = false := by simp; omega
        have HN : Hid (Lx.withL (ms.take (k + 1)) s.size = Lx.withL (ms.take k) s.size) := Lib.hid (Lx.withL_no HMK.out hlong)
        clear hlong
        go_wp2_with fail
        go_roundg (ms.length - (k + 1))
        case measure => omega
        case rel =>
          have hbb : Below wr.heap.size wr (wr.alloc (.cells #[.int .i64 m.entry, .int .i64 m.ending, .slice Ac m.clitics.length cc, .int .i64 m.long] 87)) := (Below.refl _ _).alloc (Nat.le_refl _) _
          exact ⟨k + 1, by omega, rfl, by go_num, ⟨_, _, _, rfl⟩, by rw [HN.out]; exact HOG.out.kept hbb, HBEL.out.trans (hbb.mono (by omega)), hvlt⟩
    · have hkn : k = ms.length := by omega
      have HF : Hid (OwnG KForm 29 wr w.heap.size (.slice Av nv cv) (Lx.withV x s)) := Lib.hid (by
        rw [Lx.withV, ← HMS.out, ← (List.take_of_length_le (Nat.le_of_eq hkn.symm) : ms.take k = ms)]; exact hog)
      clear hog hbel hkn
      go_wp2_with fail
      go_ret
      exact ⟨_, rfl, HF.out, HB1.out.trans (HBEL.out.mono (by omega))⟩
end Go.Proofs.YtpmnpnlfgfleeaaGreatDoor
namespace Go.Proofs.YtpmnpnlfgfleeaaGreatDoor
open Go.RowKit

def Lx.withN (x : Lx.Lexicon) (s : ByteArray) : Int := if Lx.speechV x s ≠ 0 then Lx.speechV x s else if 1000 < (Lx.withV x s).length then 2 else 0
def Lx.withR (x : Lx.Lexicon) (s : ByteArray) : List Lx.Form := if Lx.withN x s = 0 then Lx.withV x s else []
theorem Lx.speech_parts {x : Lx.Lexicon} {s : ByteArray} (h : Lx.speechV x s = 0) : Lx.checkV x = 0 ∧ Lx.soundsB s 64 = true := by
  unfold Lx.speechV at h
  split at h
  · rename_i q; exact absurd h q
  · rename_i q
    refine ⟨by simpa using q, ?_⟩
    cases hs : Lx.soundsB s 64
    · rw [hs] at h; simp at h
    · rfl
theorem Lx.sounds_size {s : ByteArray} (h : Lx.soundsB s 64 = true) : 1 ≤ s.size ∧ s.size ≤ 64 ∧ Lx.allL s = true := by
  unfold Lx.soundsB at h
  simp only [Bool.and_eq_true, decide_eq_true_eq] at h
  exact ⟨h.1.1, by omega, h.2⟩
theorem Lx.with_rwith {x : Lx.Lexicon} {s : ByteArray} (h : Lx.checkV x = 0) : Lx.withV x s = Lx.rwithV x s.data.toList := by
  have e := Lx.with_law (x := x) (s := s) (n := s.size) h (Nat.le_refl _)
  have e2 : Lx.part s 0 s.size = s.data.toList := by
    unfold Lx.part
    rw [List.drop_zero, Nat.sub_zero]
    exact List.take_of_length_le (Nat.le_refl _)
  rw [e2] at e
  exact e
theorem Lx.withN_bad {x : Lx.Lexicon} {s : ByteArray} (h : Lx.speechV x s ≠ 0) : Lx.withN x s = Lx.speechV x s ∧ Lx.withR x s = [] := by
  have e : Lx.withN x s = Lx.speechV x s := by unfold Lx.withN; rw [if_pos h]
  exact ⟨e, by unfold Lx.withR; rw [e, if_neg h]⟩
theorem Lx.withN_many {x : Lx.Lexicon} {s : ByteArray} (h : Lx.speechV x s = 0) (h2 : 1000 < (Lx.withV x s).length) : Lx.withN x s = 2 ∧ Lx.withR x s = [] := by
  have e : Lx.withN x s = 2 := by unfold Lx.withN; rw [if_neg (by simp [h]), if_pos h2]
  exact ⟨e, by unfold Lx.withR; rw [e]; rfl⟩
theorem Lx.withN_good {x : Lx.Lexicon} {s : ByteArray} (h : Lx.speechV x s = 0) (h2 : ¬ 1000 < (Lx.withV x s).length) : Lx.withN x s = 0 ∧ Lx.withR x s = Lx.withV x s := by
  have e : Lx.withN x s = 0 := by unfold Lx.withN; rw [if_neg (by simp [h]), if_neg h2]
  exact ⟨e, by unfold Lx.withR; rw [e]; rfl⟩
theorem ret_vi {v : Value} {n m : Int} (h : n = m) : Ending.returned (.tuple #[v, .int .i64 n]) = .returned (.tuple #[v, .int .i64 m]) := by rw [h]
def FormsIn (w : World) (l : List Lx.Form) (w' : World) (v : Value) : Prop := RdG KForm w' (fun b => b < w'.heap.size ∧ w.heap.size ≤ b) v l


set_option maxRecDepth 100000 in
set_option maxHeartbeats 2000000 in
theorem With_any (vx : Value) (x : Lx.Lexicon) (s : ByteArray) (w : World) (hr : RdL w w.heap.size vx x) (hs : s.size ≤ 1000) :
    Calls Tryz.prog 16 #[vx, .string s] w (RetVI w (FormsIn w (Lx.withR x s)) (Lx.withN x s)) := by
  have HSP : Hid (∀ (W : World), Below w.heap.size w W → Calls Tryz.prog 41 #[vx, .string s] W (RetIB (Lx.speechV x s) W)) := Lib.hid fun W hW => speech_any vx x s W ((hr.below hW).more hW.size) (by simp only [maxLen]; omega)
  have HWI : Hid (∀ (W : World), Below w.heap.size w W → Lx.checkV x = 0 → Calls Tryz.prog 42 #[vx, .string s] W (fun e w' => ∃ v, e = .returned v ∧ OwnG KForm 29 w' W.heap.size v (Lx.withV x s) ∧ Below W.heap.size W w')) :=
    Lib.hid fun W hW hc => with_any x s hc hs vx W ((hr.below hW).more hW.size)
  obtain ⟨⟨v0, v1, v2, rfl, ⟨A0, c0, rfl, -⟩, ⟨A1, c1, rfl, -⟩, ⟨A2, c2, rfl, -⟩⟩, -, -, -⟩ := hr
  have cx : ∀ (W : World), W.heap[w.heap.size]? = some (.cells #[.slice A0 x.entries.length c0, .slice A1 x.endings.length c1, .slice A2 x.clitics.length c2] 26 (0, 0)) →
      W.cell? ⟨w.heap.size, 0, none⟩ = some (.slice A0 x.entries.length c0) ∧ W.cell? ⟨w.heap.size, 1, none⟩ = some (.slice A1 x.endings.length c1) ∧ W.cell? ⟨w.heap.size, 2, none⟩ = some (.slice A2 x.clitics.length c2) :=
    fun W h => ⟨by simp [World.cell?, h], by simp [World.cell?, h], by simp [World.cell?, h]⟩
  have CX := Lib.hid cx
  clear cx
  have hal : Below w.heap.size w (w.alloc (.cells #[.slice A0 x.entries.length c0, .slice A1 x.endings.length c1, .slice A2 x.clitics.length c2] 26)) := (Below.refl _ _).alloc (Nat.le_refl _) _
  have HNB : Hid (Lx.speechV x s ≠ 0 → Lx.withN x s = Lx.speechV x s ∧ Lx.withR x s = []) := Lib.hid Lx.withN_bad
  have HNG : Hid (Lx.speechV x s = 0 → Lx.checkV x = 0) := Lib.hid fun h => (Lx.speech_parts h).1
  generalize hcv : Lx.speechV x s = cv at HSP HNB HNG
  have HCV := Lib.hid hcv
  clear hcv
  go_enter Tryz.func16, Tryz.ntmps16
  go_wp2_with fail
  refine (HSP.out _ hal).mono ?_
  rintro e1 w1 ⟨rfl, hb1⟩
  have HB1 := Lib.hid (hal.trans (hb1.mono (by simp)))
  have hs1 : w.heap.size + 1 ≤ w1.heap.size := by have := hb1.size; simp at this; omega
  have hx1 := (hb1.block w.heap.size (by simp)).trans (heap_alloc_new _ _)
  clear hb1 hal
  by_cases hz : cv = 0
  · have hq : (cv == 0) = true := by simp [hz]
    have hq' : (cv != 0) = false := by simp [hz]
    have HC0 := Lib.hid (HNG.out hz)
    have HZ := Lib.hid hz
    obtain ⟨x0, x1, x2⟩ := CX.out w1 hx1
    clear hz hx1
    go_wp2_with fail
    refine (HWI.out w1 HB1.out HC0.out).mono ?_
    rintro e2 w2 ⟨v2, rfl, hog, hb2⟩
    have hrd : RdG KForm w2 (fun b => b < w2.heap.size ∧ w.heap.size ≤ b) v2 (Lx.withV x s) := hog.rd.keep fun b hb => ⟨⟨hb.1, by omega⟩, rfl⟩
    obtain ⟨A2', c2', rfl⟩ := hrd.form
    have HRD := Lib.hid hrd
    have HB2 := Lib.hid (HB1.out.trans (hb2.mono HB1.out.size))
    have hmx : (Lx.withV x s).length ≤ 9223372036854775807 := by
      obtain ⟨_, _, e, h1, h2, _⟩ := hrd
      omega
    clear hog hb2 hrd x0 x1 x2
    by_cases hm : 1000 < (Lx.withV x s).length
    · have HF := Lib.hid (Lx.withN_many (HCV.out.trans HZ.out) hm)
      have hmI : (1000 : Int) < ((Lx.withV x s).length : Int) := by omega
      clear hm
      go_wp2_with fail
      go_ret2
      exact ⟨_, ret_vi HF.out.1.symm, by rw [HF.out.2]; exact RdG.nil _ _, HB2.out⟩
    · have HF := Lib.hid (Lx.withN_good (HCV.out.trans HZ.out) hm)
      have hmI : ¬ (1000 : Int) < ((Lx.withV x s).length : Int) := by omega
      clear hm
      go_wp2_with fail
      go_ret2
      exact ⟨_, ret_vi HF.out.1.symm, by rw [HF.out.2]; exact HRD.out, HB2.out⟩
  · have hq : (cv == 0) = false := by simp [hz]
    have hq' : (cv != 0) = true := by simp [hz]
    have HF := Lib.hid (HNB.out hz)
    clear hz hx1
    go_wp2_with fail
    go_ret2
    exact ⟨_, ret_vi HF.out.1.symm, by rw [HF.out.2]; exact RdG.nil _ _, HB1.out⟩


end Go.Proofs.YtpmnpnlfgfleeaaGreatDoor
