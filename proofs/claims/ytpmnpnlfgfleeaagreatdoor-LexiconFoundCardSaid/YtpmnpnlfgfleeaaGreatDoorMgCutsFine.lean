/- CompareForms, SameForm, SameForms. Made by gen_sameforms.py from sameforms.tpl. The forms of a line: they fit, they are small. What holds of the cuts. -/
import Derived.Test.YtpmnpnlfgfleeaaGreatDoorMgCutsPlain
import Derived.Test.YtpmnpnlfgfleeaaGreatDoorMgRTails
import Derived.BigQuiet
import Derived.Test.YtpmnpnlfgfleeaaGreatDoorMgRegion4
import Derived.Test.YtpmnpnlfgfleeaaGreatDoorMgSounds
import Derived.Test.YtpmnpnlfgfleeaaGreatDoorMgWithF
import Derived.Test.YtpmnpnlfgfleeaaGreatDoorMgFitsPlain
import Derived.Test.YtpmnpnlfgfleeaaGreatDoorMgRWith
namespace Go.Proofs.YtpmnpnlfgfleeaaGreatDoor
open Go.RowKit

/-- a form whose numbers are small -/
structure FSmall (f : Lx.Form) : Prop where
  ent : -1000000 ≤ f.entry ∧ f.entry ≤ 1000000
  fin : -1000000 ≤ f.ending ∧ f.ending ≤ 1000000
  few : f.clitics.length ≤ 1000000
  cl : ∀ (k : Nat) (c : Int), f.clitics[k]? = some c → -1000000 ≤ c ∧ c ≤ 1000000
theorem FitsC.small {x : Lx.Lexicon} {f : Lx.Form} (h : Lx.FitsC x f) (hn : x.entries.length ≤ 1000) (hm : x.endings.length ≤ 1000) (hk : x.clitics.length ≤ 1000) (he : -1 ≤ f.ending) : FSmall f :=
  ⟨by have := h.ent; omega, by have := h.fin; omega, by have := h.few; omega, fun k c hc => by have := h.cl k c hc; omega⟩

theorem rdf_keep' {w w1 : World} {v : Value} {f : Lx.Form} (hb : Below w.heap.size w w1) (h : RdF w w.heap.size v f) : RdF w1 w1.heap.size v f := (h.below hb).more hb.size

set_option maxRecDepth 100000 in
set_option maxHeartbeats 4000000 in
theorem CompareForms_any (va vb : Value) (a b : Lx.Form) (w : World) (ha : RdF w w.heap.size va a) (hb : RdF w w.heap.size vb b) (hsa : FSmall a) (hsb : FSmall b) :
    Calls Tryz.prog 40 #[va, vb] w (RetIB (Lx.cmpF a b) w) := by
  obtain ⟨⟨sa, rfl, ⟨A0, c0, rfl, -, -, ha0⟩⟩⟩ := ha
  obtain ⟨⟨sb, rfl, ⟨A1, c1, rfl, -, -, hb0⟩⟩⟩ := hb
  obtain ⟨⟨he0, he1⟩, ⟨hf0, hf1⟩, hfa, hcla⟩ := hsa
  obtain ⟨⟨ge0, ge1⟩, ⟨gf0, gf1⟩, hfb, hclb⟩ := hsb
  have HA := Lib.hid ha0
  have HB := Lib.hid hb0
  have HCA := Lib.hid hcla
  have HCB := Lib.hid hclb
  obtain ⟨W2, hW2⟩ : ∃ W2, W2 = (w.alloc (.cells #[.int .i64 a.entry, .int .i64 a.ending, .slice A0 a.clitics.length c0] 29)).alloc (.cells #[.int .i64 b.entry, .int .i64 b.ending, .slice A1 b.clitics.length c1] 29) := ⟨_, rfl⟩
  have HBW : Hid (Below w.heap.size w W2) := Lib.hid (by rw [hW2]; exact ((Below.refl _ _).alloc (Nat.le_refl _) _).alloc (by simp) _)
  have hsz : W2.heap.size = w.heap.size + 2 := by rw [hW2]; simp
  have HFA : Hid (W2.heap[w.heap.size]? = some (.cells #[.int .i64 a.entry, .int .i64 a.ending, .slice A0 a.clitics.length c0] 29 (0, 0))) := Lib.hid (by rw [hW2]; exact start_fst w _ _)
  have HFB : Hid (W2.heap[w.heap.size + 1]? = some (.cells #[.int .i64 b.entry, .int .i64 b.ending, .slice A1 b.clitics.length c1] 29 (0, 0))) := Lib.hid (by rw [hW2]; exact start_res2 w _ _)
  have HSZ := Lib.hid hsz
  have HW2 := Lib.hid hW2
  have cells : ∀ W : World, Below W2.heap.size W2 W → W.cell? ⟨w.heap.size, 0, none⟩ = some (.int .i64 a.entry) ∧ W.cell? ⟨w.heap.size, 1, none⟩ = some (.int .i64 a.ending) ∧ W.cell? ⟨w.heap.size, 2, none⟩ = some (.slice A0 a.clitics.length c0) ∧
      W.cell? ⟨w.heap.size + 1, 0, none⟩ = some (.int .i64 b.entry) ∧ W.cell? ⟨w.heap.size + 1, 1, none⟩ = some (.int .i64 b.ending) ∧ W.cell? ⟨w.heap.size + 1, 2, none⟩ = some (.slice A1 b.clitics.length c1) := fun W hW => by
    have p := (hW.block w.heap.size (by omega)).trans HFA.out
    have q := (hW.block (w.heap.size + 1) (by omega)).trans HFB.out
    exact ⟨by simp [World.cell?, p], by simp [World.cell?, p], by simp [World.cell?, p], by simp [World.cell?, q], by simp [World.cell?, q], by simp [World.cell?, q]⟩
  have CX := Lib.hid cells
  clear ha0 hb0 hcla hclb hsz hW2 cells
  go_enter Tryz.func40, Tryz.ntmps40
  by_cases he : a.entry = b.entry
  · by_cases hf : a.ending = b.ending
    · have hq : (a.entry == b.entry) = true := by simp [he]
      have hq2 : (a.ending == b.ending) = true := by simp [hf]
      have HF : Hid (Lx.cmpF a b = Lx.cmpL a.clitics b.clitics) := Lib.hid (by unfold Lx.cmpF; rw [if_pos he, if_pos hf])
      clear he hf
      go_wp2_with fail
      rw [← HW2.out]
      obtain ⟨x0, x1, x2, x3, x4, x5⟩ := CX.out W2 (Below.refl _ _)
      go_loopg [5] a.clitics.length (fun g i wr => ∃ k : Nat, k ≤ a.clitics.length ∧ k ≤ b.clitics.length ∧ g = a.clitics.length - k ∧ i = .int .i64 k ∧ Below W2.heap.size W2 wr ∧ Lx.cmpL a.clitics b.clitics = Lx.cmpL (a.clitics.drop k) (b.clitics.drop k))
      case atStart => exact ⟨0, Nat.zero_le _, Nat.zero_le _, rfl, rfl, Below.refl _ _, rfl⟩
      case round =>
        obtain ⟨k, hk, hk2, rfl, rfl, hbel, heq⟩ := hrel
        have HBEL := Lib.hid hbel
        have HEQ := Lib.hid heq
        clear x0 x1 x2 x3 x4 x5
        obtain ⟨x0, x1, x2, x3, x4, x5⟩ := CX.out wr hbel
        clear hbel heq
        by_cases hlt : k < a.clitics.length
        · have hltI : (k : Int) < (a.clitics.length : Int) := by omega
          by_cases hlt2 : k < b.clitics.length
          · have hltJ : (k : Int) < (b.clitics.length : Int) := by omega
            obtain ⟨p, hp⟩ : ∃ p, a.clitics[k]? = some p := ⟨_, List.getElem?_eq_getElem hlt⟩
            obtain ⟨q, hq'⟩ : ∃ q, b.clitics[k]? = some q := ⟨_, List.getElem?_eq_getElem hlt2⟩
            obtain ⟨p0, p1⟩ := HCA.out k p hp
            obtain ⟨q0, q1⟩ := HCB.out k q hq'
            obtain ⟨b1, o1, rfl, hb1, hc1⟩ := HA.out (by omega)
            obtain ⟨b2, o2, rfl, hb2, hc2⟩ := HB.out (by omega)
            have y1 : wr.cell? ⟨b1, o1 + k, none⟩ = some (.int .i64 p) := by
              have h := hc1 k p hp 0 _ rfl
              rw [Nat.mul_one, Nat.add_zero] at h
              exact ((HBW.out.trans (HBEL.out.mono HBW.out.size)).cell (p := ⟨b1, o1 + k, none⟩) hb1).trans h
            have y2 : wr.cell? ⟨b2, o2 + k, none⟩ = some (.int .i64 q) := by
              have h := hc2 k q hq' 0 _ rfl
              rw [Nat.mul_one, Nat.add_zero] at h
              exact ((HBW.out.trans (HBEL.out.mono HBW.out.size)).cell (p := ⟨b2, o2 + k, none⟩) hb2).trans h
            have HD : Hid (Lx.cmpL a.clitics b.clitics = if p = q then Lx.cmpL (a.clitics.drop (k + 1)) (b.clitics.drop (k + 1)) else p - q) := Lib.hid (HEQ.out.trans (Lx.cmpL_drop hp hq'))
            clear hc1 hc2 hp hq'
            go_upto_region 8 with fail
            go_cut [50] (fun t wc => t = .bool (decide (p ≠ q)) ∧ ∃ n, wc = wr.drewN n)
            case first =>
              go_quiet (fail)
              all_goals go_wp2_with fail
              all_goals
                go_meet
                go_light
                refine ⟨?_, _, rfl⟩
                by_cases h : p = q <;> simp [h]
            case rest =>
              rename World => wk
              obtain ⟨rfl, nd, hwk⟩ := hcut
              have HBK : Hid (Below W2.heap.size W2 wk) := Lib.hid (by rw [hwk]; exact HBEL.out.trans (below_drewN (Below.refl _ _) _))
              clear x0 x1 x2 x3 x4 x5
              obtain ⟨x0, x1, x2, x3, x4, x5⟩ := CX.out wk HBK.out
              have z1 : wk.cell? ⟨b1, o1 + k, none⟩ = some (.int .i64 p) := by rw [hwk]; exact y1
              have z2 : wk.cell? ⟨b2, o2 + k, none⟩ = some (.int .i64 q) := by rw [hwk]; exact y2
              clear hwk y1 y2
              by_cases hpq : p = q
              · have HN : Hid (Lx.cmpL a.clitics b.clitics = Lx.cmpL (a.clitics.drop (k + 1)) (b.clitics.drop (k + 1))) := Lib.hid (by rw [HD.out, if_pos hpq])
                have hd : decide (p ≠ q) = false := by simp [hpq]
                rw [hd]
                clear hpq hd
                go_wp2_with fail
                go_roundg (a.clitics.length - (k + 1))
                case measure => omega
                case rel => exact ⟨k + 1, by omega, by omega, rfl, by go_num, HBK.out, HN.out⟩
              · have HN : Hid (Lx.cmpF a b = p - q) := Lib.hid (by rw [HF.out, HD.out, if_neg hpq])
                have hd : decide (p ≠ q) = true := by simp [hpq]
                rw [hd]
                clear hpq hd
                go_wp2_with fail
                go_quiet (fail)
                all_goals go_wp2_with fail
                all_goals
                  go_ret
                  exact ⟨ret_int HN.out.symm, HBW.out.trans ((HBK.out.trans (below_drewN (Below.refl _ _) _)).mono HBW.out.size)⟩
          · have hltJ : ¬ (k : Int) < (b.clitics.length : Int) := by omega
            have HN : Hid (Lx.cmpF a b = (a.clitics.length : Int) - b.clitics.length) := Lib.hid (by rw [HF.out, HEQ.out, Lx.cmpL_end hk hk2 (.inr (by omega))])
            go_wp2_with fail
            go_ret
            exact ⟨ret_int HN.out.symm, HBW.out.trans (HBEL.out.mono HBW.out.size)⟩
        · have hltI : ¬ (k : Int) < (a.clitics.length : Int) := by omega
          have HN : Hid (Lx.cmpF a b = (a.clitics.length : Int) - b.clitics.length) := Lib.hid (by rw [HF.out, HEQ.out, Lx.cmpL_end hk hk2 (.inl (by omega))])
          go_wp2_with fail
          go_ret
          exact ⟨ret_int HN.out.symm, HBW.out.trans (HBEL.out.mono HBW.out.size)⟩
    · have hq : (a.entry == b.entry) = true := by simp [he]
      have hq2 : (a.ending == b.ending) = false := by simp [hf]
      have HF : Hid (Lx.cmpF a b = a.ending - b.ending) := Lib.hid (by unfold Lx.cmpF; rw [if_pos he, if_neg hf])
      clear he hf
      go_wp2_with fail
      go_ret
      exact ⟨ret_int HF.out.symm, by have := HBW.out; rwa [HW2.out] at this⟩
  · have hq : (a.entry == b.entry) = false := by simp [he]
    have HF : Hid (Lx.cmpF a b = a.entry - b.entry) := Lib.hid (by unfold Lx.cmpF; rw [if_neg he])
    clear he
    go_wp2_with fail
    go_ret
    exact ⟨ret_int HF.out.symm, by have := HBW.out; rwa [HW2.out] at this⟩

set_option maxRecDepth 100000 in
theorem SameForm_any (va vb : Value) (a b : Lx.Form) (w : World) (ha : RdF w w.heap.size va a) (hb : RdF w w.heap.size vb b) (hsa : FSmall a) (hsb : FSmall b) :
    Calls Tryz.prog 15 #[va, vb] w (RetBB (decide (a = b)) w) := by
  have HC : Hid (∀ W : World, Below w.heap.size w W → Calls Tryz.prog 40 #[va, vb] W (RetIB (Lx.cmpF a b) W)) := Lib.hid fun W hW => CompareForms_any va vb a b W (rdf_keep' hW ha) (rdf_keep' hW hb) hsa hsb
  obtain ⟨⟨sa, rfl, ⟨A0, c0, rfl, -, -, -⟩⟩⟩ := ha
  obtain ⟨⟨sb, rfl, ⟨A1, c1, rfl, -, -, -⟩⟩⟩ := hb
  have hal : ∀ X Y : Obj, Below w.heap.size w ((w.alloc X).alloc Y) := fun X Y => ((Below.refl _ _).alloc (Nat.le_refl _) _).alloc (by simp) _
  have HAL := Lib.hid hal
  clear hal hsa hsb
  go_enter Tryz.func15, Tryz.ntmps15
  go_wp2_with fail
  refine (HC.out _ (HAL.out _ _)).mono ?_
  rintro e1 w1 ⟨rfl, hb1⟩
  have HB1 := Lib.hid ((HAL.out _ _).trans (hb1.mono (HAL.out _ _).size))
  clear hb1
  go_wp2_with fail
  go_ret
  refine ⟨ret_bool ?_, HB1.out⟩
  by_cases h : Lx.cmpF a b = 0
  · have h2 := Lx.cmpF_zero.1 h
    subst h2
    simp [h]
  · have h2 : ¬ a = b := fun e => h (Lx.cmpF_zero.2 e)
    simp [h, h2]

theorem Lx.take_ne {la lb : List Lx.Form} {k : Nat} {a b : Lx.Form} (ha : la[k]? = some a) (hb : lb[k]? = some b) (h : a ≠ b) : la ≠ lb := fun e => by subst e; rw [ha] at hb; cases hb; exact h rfl
theorem Lx.take_next {la lb : List Lx.Form} {k : Nat} {a : Lx.Form} (ha : la[k]? = some a) (hb : lb[k]? = some a) (h : la.take k = lb.take k) : la.take (k + 1) = lb.take (k + 1) := by
  rw [List.take_add_one, List.take_add_one, ha, hb, h]

structure SfR (T0 : Array Value) (W0 : World) (b1 o1 n c0 b2 o2 n2 c1 k : Nat) (p q : Lx.Form) (s1 s2 : Value) (r : Bool) (d : Array Bool) (t : Array Value) (wc : World) : Prop where
  bel : Below W0.heap.size W0 wc
  siz : t.size = 27
  kp : ∀ i, i ∉ ([17, 18, 19, 20, 21, 22, 23, 24, 25, 26] : List Nat) → t[i]? = T0[i]?
  k0 : t[0]? = some ((.slice (some ⟨b1, o1, none⟩) n c0))
  k1 : t[1]? = some ((.slice (some ⟨b2, o2, none⟩) n2 c1))
  k5 : t[5]? = some (.int .i64 (k : Int))
  p0 : dn d 0 → t[17]? = some ((.slice (some ⟨b1, o1, none⟩) n c0))
  p1 : dn d 1 → t[18]? = some (.int .i64 (k : Int))
  p2 : dn d 2 → t[19]? = some (.pointer (some ⟨b1, o1 + k * 3, none⟩))
  p3 : dn d 3 → t[20]? = some ((.agg #[.int .i64 p.entry, .int .i64 p.ending, s1]))
  p4 : dn d 4 → t[21]? = some ((.slice (some ⟨b2, o2, none⟩) n2 c1))
  p5 : dn d 5 → t[22]? = some (.int .i64 (k : Int))
  p6 : dn d 6 → t[23]? = some (.pointer (some ⟨b2, o2 + k * 3, none⟩))
  p7 : dn d 7 → t[24]? = some ((.agg #[.int .i64 q.entry, .int .i64 q.ending, s2]))
  p8 : dn d 8 → t[25]? = some (.bool r)
  p9 : dn d 9 → t[26]? = some (.bool (!r))
def SfI (T0 : Array Value) (W0 : World) (b1 o1 n c0 b2 o2 n2 c1 k : Nat) (p q : Lx.Form) (s1 s2 : Value) (r : Bool) (d : Array Bool) (a : Act) (wc : World) : Prop := ∃ t : Array Value, a = ⟨t, []⟩ ∧ SfR T0 W0 b1 o1 n c0 b2 o2 n2 c1 k p q s1 s2 r d t wc


end Go.Proofs.YtpmnpnlfgfleeaaGreatDoor
namespace Go.Proofs.YtpmnpnlfgfleeaaGreatDoor
open Go.RowKit

theorem Lx.withV_fits2 {x : Lx.Lexicon} {s : ByteArray} (h : Lx.checkV x = 0) : ∀ f ∈ Lx.withV x s, Lx.FitsC x f := by
  intro f hf
  unfold Lx.withV Lx.withL at hf
  rw [List.mem_map] at hf
  obtain ⟨m, hm, rfl⟩ := hf
  exact (Lx.matchesV_fits h m (List.mem_filter.1 hm).1).form
theorem Lx.leanF_end2 {x : Lx.Lexicon} {s : ByteArray} : ∀ (fuel : Nat) (m : Lx.Match) (first : Nat), ∀ m' ∈ Lx.leanF x s fuel m first, m'.ending = m.ending
  | 0, m, first, m', h => by simp [Lx.leanF] at h; subst h; rfl
  | fuel + 1, m, first, m', h => by
    unfold Lx.leanF at h
    rw [List.mem_cons] at h
    rcases h with rfl | h
    · rfl
    · split at h
      · simp at h
      · rw [List.mem_flatMap] at h
        obtain ⟨c, _, h⟩ := h
        split at h
        · split at h
          · have := Lx.leanF_end2 fuel _ _ m' h
            exact this
          · simp at h
        · simp at h
theorem Lx.matchesV_end2 {x : Lx.Lexicon} {s : ByteArray} : ∀ m ∈ Lx.matchesV x s, -1 ≤ m.ending := by
  intro m hm
  unfold Lx.matchesV Lx.matchesN at hm
  rw [List.mem_flatMap] at hm
  obtain ⟨i, hi, hm⟩ := hm
  unfold Lx.matchesE at hm
  split at hm
  · split at hm
    · unfold Lx.matchesTo at hm
      rw [List.mem_flatMap] at hm
      obtain ⟨q, hq, hm⟩ := hm
      unfold Lx.matchesQ at hm
      split at hm
      · simp at hm
      · split at hm
        · rw [Lx.leanF_end2 _ _ _ m hm]; simp only; omega
        · simp at hm
    · simp at hm
  · simp at hm
theorem Lx.withV_small2 {x : Lx.Lexicon} {s : ByteArray} (h : Lx.checkV x = 0) : ∀ f ∈ Lx.withV x s, FSmall f := by
  intro f hf
  have hc := Lx.withV_fits2 h f hf
  obtain ⟨t0, t1, t2⟩ := Lx.tooMany_no (Lx.check_parts h).1
  refine FitsC.small hc (by omega) (by omega) (by omega) ?_
  unfold Lx.withV Lx.withL at hf
  rw [List.mem_map] at hf
  obtain ⟨m, hm, rfl⟩ := hf
  exact Lx.matchesV_end2 m (List.mem_filter.1 hm).1
end Go.Proofs.YtpmnpnlfgfleeaaGreatDoor
namespace Go.Proofs.YtpmnpnlfgfleeaaGreatDoor
open Go.RowKit

theorem Lx.formsR_fine {x : Lx.Lexicon} {s : ByteArray} (hchk : Lx.checkV x = 0) : ∀ i t f, f ∈ Lx.formsR x s i t → Lx.FitsC x f ∧ FSmall f := fun i t f hf => by
  have e : Lx.formsR x s i t = Lx.withV x (s.extract i t) := (Lx.with_rwith hchk).symm
  rw [e] at hf
  exact ⟨Lx.withV_fits2 hchk f hf, Lx.withV_small2 hchk f hf⟩
theorem Lx.cutsR_fine (x : Lx.Lexicon) (s : ByteArray) (most : Int) : (Lx.cutsR x s most).length ≤ 64 ∧ ∀ c ∈ Lx.cutsR x s most, ∀ f ∈ c.1, FSmall f := by
  unfold Lx.cutsR
  by_cases h : Lx.cutsN x s most = 0
  · rw [if_pos h]
    unfold Lx.cutsN at h
    by_cases hz : Lx.speechV x s = 0
    · rw [if_neg (by simp [hz])] at h
      have hw : Lx.withinB most 1 64 = true := by
        cases q : Lx.withinB most 1 64
        · rw [if_pos q] at h; cases h
        · rfl
      have hm : 1 ≤ most ∧ most ≤ 64 := by simpa [Lx.withinB] using hw
      have hchk := (Lx.speech_parts hz).1
      rw [Lx.cuts_law hchk]
      have hf := Lx.rtab_fine (x := x) (most := most.toNat) (forms := Lx.formsR x s) (n := s.size) (Q := FSmall) (by omega) (fun i t f hf => (Lx.formsR_fine hchk i t f hf).2) s.size 0
      exact ⟨by have := hf.len; omega, fun c hc => hf.mem c hc⟩
    · rw [if_pos hz] at h
      exact absurd h hz
  · rw [if_neg h]
    exact ⟨by simp, fun c hc => by cases hc⟩
/-- the cells of one cut -/
theorem rdg_cut {w : World} {ok : Nat → Prop} {A : Option Addr} {n c : Nat} {l : List Lx.Cut} (h : RdG KCut w ok (.slice A n c) l) {i : Nat} {t : Lx.Cut} (hi : l[i]? = some t) :
    ∃ b off v, A = some ⟨b, off, none⟩ ∧ ok b ∧ w.cell? ⟨b, off + i * 2, none⟩ = some v ∧ w.cell? ⟨b, off + i * 2 + 1, none⟩ = some (.int .i64 t.2) ∧ RdG KForm w ok v t.1 := by
  obtain ⟨b, off, hA, hb, hcell⟩ := h.at (by have := (List.getElem?_eq_some_iff.1 hi).1; omega)
  obtain ⟨cs, ⟨v, rfl, hv⟩, hcs⟩ := hcell i t hi
  exact ⟨b, off, v, hA, hb, hcs 0 _ rfl, hcs 1 _ rfl, hv⟩
end Go.Proofs.YtpmnpnlfgfleeaaGreatDoor
