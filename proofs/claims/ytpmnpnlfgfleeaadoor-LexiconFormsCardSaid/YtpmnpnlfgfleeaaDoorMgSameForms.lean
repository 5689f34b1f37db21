/- CompareForms, SameForm, SameForms. Made by gen_sameforms.py from sameforms.tpl. -/
import Derived.Test.YtpmnpnlfgfleeaaDoorMgLeastPlain
import Derived.Test.YtpmnpnlfgfleeaaDoorMgRowKit
import Derived.Test.YtpmnpnlfgfleeaaDoorMgRTails
import Derived.BigQuiet
import Derived.Test.YtpmnpnlfgfleeaaDoorMgRegion4
namespace Go.Proofs.YtpmnpnlfgfleeaaDoor
open Go.RowKit

/-- a form whose numbers are small -/
structure FSmall (f : Lx.Form) : Prop where
  ent : -1000000 ≤ f.entry ∧ f.entry ≤ 1000000
  fin : -1000000 ≤ f.ending ∧ f.ending ≤ 1000000
  few : f.clitics.length ≤ 1000000
  cl : ∀ (k : Nat) (c : Int), f.clitics[k]? = some c → -1000000 ≤ c ∧ c ≤ 1000000
theorem FitsC.small {x : Lx.Lexicon} {f : Lx.Form} (h : Lx.FitsC x f) (hn : x.entries.length ≤ 1000) (hm : x.endings.length ≤ 1000) (hk : x.clitics.length ≤ 1000) (he : -1 ≤ f.ending) : FSmall f :=
  ⟨by have := h.ent; omega, by have := h.fin; omega, by have := h.few; omega, fun k c hc => by have := h.cl k c hc; omega⟩

theorem rdf_keep' {w w1 : World} {v : Value} {f : Lx.Form} (hb : Below w.heap.size w w1) (h : RdF w w.heap.size v f) : RdF w1 w1.heap.size v f := (h.below hb).more hb.size

set_option maxRecDepth 100000 in
set_option maxHeartbeats 4000000 in
theorem CompareForms_any (va vb : Value) (a b : Lx.Form) (w : World) (ha : RdF w w.heap.size va a) (hb : RdF w w.heap.size vb b) (hsa : FSmall a) (hsb : FSmall b) :
    Calls Tryd.prog 37 #[va, vb] w (RetIB (Lx.cmpF a b) w) := by
  obtain ⟨⟨sa, rfl, ⟨A0, c0, rfl, -, -, ha0⟩⟩⟩ := ha
  obtain ⟨⟨sb, rfl, ⟨A1, c1, rfl, -, -, hb0⟩⟩⟩ := hb
  obtain ⟨⟨he0, he1⟩, ⟨hf0, hf1⟩, hfa, hcla⟩ := hsa
  obtain ⟨⟨ge0, ge1⟩, ⟨gf0, gf1⟩, hfb, hclb⟩ := hsb
  have HA := Lib.hid ha0
  have HB := Lib.hid hb0
  have HCA := Lib.hid hcla
  have HCB := Lib.hid hclb
  obtain ⟨W2, hW2⟩ : ∃ W2, W2 = (w.alloc (.cells #[.int .i64 a.entry, .int .i64 a.ending, .slice A0 a.clitics.length c0] 49)).alloc (.cells #[.int .i64 b.entry, .int .i64 b.ending, .slice A1 b.clitics.length c1] 49) := ⟨_, rfl⟩
  have HBW : Hid (Below w.heap.size w W2) := Lib.hid (by rw [hW2]; exact ((Below.refl _ _).alloc (Nat.le_refl _) _).alloc (by simp) _)
  have hsz : W2.heap.size = w.heap.size + 2 := by rw [hW2]; simp
  have HFA : Hid (W2.heap[w.heap.size]? = some (.cells #[.int .i64 a.entry, .int .i64 a.ending, .slice A0 a.clitics.length c0] 49 (0, 0))) := Lib.hid (by rw [hW2]; exact start_fst w _ _)
  have HFB : Hid (W2.heap[w.heap.size + 1]? = some (.cells #[.int .i64 b.entry, .int .i64 b.ending, .slice A1 b.clitics.length c1] 49 (0, 0))) := Lib.hid (by rw [hW2]; exact start_res2 w _ _)
  have HSZ := Lib.hid hsz
  have HW2 := Lib.hid hW2
  have cells : ∀ W : World, Below W2.heap.size W2 W → W.cell? ⟨w.heap.size, 0, none⟩ = some (.int .i64 a.entry) ∧ W.cell? ⟨w.heap.size, 1, none⟩ = some (.int .i64 a.ending) ∧ W.cell? ⟨w.heap.size, 2, none⟩ = some (.slice A0 a.clitics.length c0) ∧
      W.cell? ⟨w.heap.size + 1, 0, none⟩ = some (.int .i64 b.entry) ∧ W.cell? ⟨w.heap.size + 1, 1, none⟩ = some (.int .i64 b.ending) ∧ W.cell? ⟨w.heap.size + 1, 2, none⟩ = some (.slice A1 b.clitics.length c1) := fun W hW => by
    have p := (hW.block w.heap.size (by omega)).trans HFA.out
    have q := (hW.block (w.heap.size + 1) (by omega)).trans HFB.out
    exact ⟨by simp [World.cell?, p], by simp [World.cell?, p], by simp [World.cell?, p], by simp [World.cell?, q], by simp [World.cell?, q], by simp [World.cell?, q]⟩
  have CX := Lib.hid cells
  clear ha0 hb0 hcla hclb hsz hW2 cells
  go_enter Tryd.func37, Tryd.ntmps37
  by_cases he : a.entry = b.entry
  · by_cases hf : a.ending = b.ending
    · have hq : (a.entry == b.entry) = true := by simp [he]
      have hq2 : (a.ending == b.ending) = true := by simp [hf]
      have HF : Hid (Lx.cmpF a b = Lx.cmpL a.clitics b.clitics) := Lib.hid (by unfold Lx.cmpF; rw [if_pos he, if_pos hf])
      clear he hf
      go_wp2_with fail
      rw [← HW2.out]
      obtain ⟨x0, x1, x2, x3, x4, x5⟩ := CX.out W2 (Below.refl _ _)
      go_loopg [5] a.clitics.length (fun g i wr => ∃ k : Nat, k ≤ a.clitics.length ∧ k ≤ b.clitics.length ∧ g = a.clitics.length - k ∧ i = .int .i64 k ∧ Below W2.heap.size W2 wr ∧ Lx.cmpL a.clitics b.clitics = Lx.cmpL (a.clitics.drop k) (b.clitics.drop k))
      case atStart => exact ⟨0, Nat.zero_le _, Nat.zero_le _, rfl, rfl, Below.refl _ _, rfl⟩
      case round =>
        obtain ⟨k, hk, hk2, rfl, rfl, hbel, heq⟩ := hrel
        have HBEL := Lib.hid hbel
        have HEQ := Lib.hid heq
        clear x0 x1 x2 x3 x4 x5
        obtain ⟨x0, x1, x2, x3, x4, x5⟩ := CX.out wr hbel
        clear hbel heq
        by_cases hlt : k < a.clitics.length
        · have hltI : (k : Int) < (a.clitics.length : Int) := by omega
          by_cases hlt2 : k < b.clitics.length
          · have hltJ : (k : Int) < (b.clitics.length : Int) := by omega
            obtain ⟨p, hp⟩ : ∃ p, a.clitics[k]? = some p := ⟨_, List.getElem?_eq_getElem hlt⟩
            obtain ⟨q, hq'⟩ : ∃ q, b.clitics[k]? = some q := ⟨_, List.getElem?_eq_getElem hlt2⟩
            obtain ⟨p0, p1⟩ := HCA.out k p hp
            obtain ⟨q0, q1⟩ := HCB.out k q hq'
            obtain ⟨b1, o1, rfl, hb1, hc1⟩ := HA.out (by omega)
            obtain ⟨b2, o2, rfl, hb2, hc2⟩ := HB.out (by omega)
            have y1 : wr.cell? ⟨b1, o1 + k, none⟩ = some (.int .i64 p) := by
              have h := hc1 k p hp 0 _ rfl
              rw [Nat.mul_one, Nat.add_zero] at h
              exact ((HBW.out.trans (HBEL.out.mono HBW.out.size)).cell (p := ⟨b1, o1 + k, none⟩) hb1).trans h
            have y2 : wr.cell? ⟨b2, o2 + k, none⟩ = some (.int .i64 q) := by
              have h := hc2 k q hq' 0 _ rfl
              rw [Nat.mul_one, Nat.add_zero] at h
              exact ((HBW.out.trans (HBEL.out.mono HBW.out.size)).cell (p := ⟨b2, o2 + k, none⟩) hb2).trans h
            have HD : Hid (Lx.cmpL a.clitics b.clitics = if p = q then Lx.cmpL (a.clitics.drop (k + 1)) (b.clitics.drop (k + 1)) else p - q) := Lib.hid (HEQ.out.trans (Lx.cmpL_drop hp hq'))
            clear hc1 hc2 hp hq'
            go_upto_region 8 with fail
            go_cut [50] (fun t wc => t = .bool (decide (p ≠ q)) ∧ ∃ n, wc = wr.drewN n)
            case first =>
              go_quiet (fail)
              all_goals go_wp2_with fail
              all_goals
                go_meet
                go_light
                refine ⟨?_, _, rfl⟩
                by_cases h : p = q <;> simp [h]
            case rest =>
              rename World => wk
              obtain ⟨rfl, nd, hwk⟩ := hcut
              have HBK : Hid (Below W2.heap.size W2 wk) := Lib.hid (by rw [hwk]; exact HBEL.out.trans (below_drewN (Below.refl _ _) _))
              clear x0 x1 x2 x3 x4 x5
              obtain ⟨x0, x1, x2, x3, x4, x5⟩ := CX.out wk HBK.out
              have z1 : wk.cell? ⟨b1, o1 + k, none⟩ = some (.int .i64 p) := by rw [hwk]; exact y1
              have z2 : wk.cell? ⟨b2, o2 + k, none⟩ = some (.int .i64 q) := by rw [hwk]; exact y2
              clear hwk y1 y2
              by_cases hpq : p = q
              · have HN : Hid (Lx.cmpL a.clitics b.clitics = Lx.cmpL (a.clitics.drop (k + 1)) (b.clitics.drop (k + 1))) := Lib.hid (by rw [HD.out, if_pos hpq])
                have hd : decide (p ≠ q) = false := by simp [hpq]
                rw [hd]
                clear hpq hd
                go_wp2_with fail
                go_roundg (a.clitics.length - (k + 1))
                case measure => omega
                case rel => exact ⟨k + 1, by omega, by omega, rfl, by go_num, HBK.out, HN.out⟩
              · have HN : Hid (Lx.cmpF a b = p - q) := Lib.hid (by rw [HF.out, HD.out, if_neg hpq])
                have hd : decide (p ≠ q) = true := by simp [hpq]
                rw [hd]
                clear hpq hd
                go_wp2_with fail
                go_quiet (fail)
                all_goals go_wp2_with fail
                all_goals
                  go_ret
                  exact ⟨ret_int HN.out.symm, HBW.out.trans ((HBK.out.trans (below_drewN (Below.refl _ _) _)).mono HBW.out.size)⟩
          · have hltJ : ¬ (k : Int) < (b.clitics.length : Int) := by omega
            have HN : Hid (Lx.cmpF a b = (a.clitics.length : Int) - b.clitics.length) := Lib.hid (by rw [HF.out, HEQ.out, Lx.cmpL_end hk hk2 (.inr (by omega))])
            go_wp2_with fail
            go_ret
            exact ⟨ret_int HN.out.symm, HBW.out.trans (HBEL.out.mono HBW.out.size)⟩
        · have hltI : ¬ (k : Int) < (a.clitics.length : Int) := by omega
          have HN : Hid (Lx.cmpF a b = (a.clitics.length : Int) - b.clitics.length) := Lib.hid (by rw [HF.out, HEQ.out, Lx.cmpL_end hk hk2 (.inl (by omega))])
          go_wp2_with fail
          go_ret
          exact ⟨ret_int HN.out.symm, HBW.out.trans (HBEL.out.mono HBW.out.size)⟩
    · have hq : (a.entry == b.entry) = true := by simp [he]
      have hq2 : (a.ending == b.ending) = false := by simp [hf]
      have HF : Hid (Lx.cmpF a b = a.ending - b.ending) := Lib.hid (by unfold Lx.cmpF; rw [if_pos he, if_neg hf])
      clear he hf
      go_wp2_with fail
      go_ret
      exact ⟨ret_int HF.out.symm, by have := HBW.out; rwa [HW2.out] at this⟩
  · have hq : (a.entry == b.entry) = false := by simp [he]
    have HF : Hid (Lx.cmpF a b = a.entry - b.entry) := Lib.hid (by unfold Lx.cmpF; rw [if_neg he])
    clear he
    go_wp2_with fail
    go_ret
    exact ⟨ret_int HF.out.symm, by have := HBW.out; rwa [HW2.out] at this⟩

set_option maxRecDepth 100000 in
theorem SameForm_any (va vb : Value) (a b : Lx.Form) (w : World) (ha : RdF w w.heap.size va a) (hb : RdF w w.heap.size vb b) (hsa : FSmall a) (hsb : FSmall b) :
    Calls Tryd.prog 20 #[va, vb] w (RetBB (decide (a = b)) w) := by
  have HC : Hid (∀ W : World, Below w.heap.size w W → Calls Tryd.prog 37 #[va, vb] W (RetIB (Lx.cmpF a b) W)) := Lib.hid fun W hW => CompareForms_any va vb a b W (rdf_keep' hW ha) (rdf_keep' hW hb) hsa hsb
  obtain ⟨⟨sa, rfl, ⟨A0, c0, rfl, -, -, -⟩⟩⟩ := ha
  obtain ⟨⟨sb, rfl, ⟨A1, c1, rfl, -, -, -⟩⟩⟩ := hb
  have hal : ∀ X Y : Obj, Below w.heap.size w ((w.alloc X).alloc Y) := fun X Y => ((Below.refl _ _).alloc (Nat.le_refl _) _).alloc (by simp) _
  have HAL := Lib.hid hal
  clear hal hsa hsb
  go_enter Tryd.func20, Tryd.ntmps20
  go_wp2_with fail
  refine (HC.out _ (HAL.out _ _)).mono ?_
  rintro e1 w1 ⟨rfl, hb1⟩
  have HB1 := Lib.hid ((HAL.out _ _).trans (hb1.mono (HAL.out _ _).size))
  clear hb1
  go_wp2_with fail
  go_ret
  refine ⟨ret_bool ?_, HB1.out⟩
  by_cases h : Lx.cmpF a b = 0
  · have h2 := Lx.cmpF_zero.1 h
    subst h2
    simp [h]
  · have h2 : ¬ a = b := fun e => h (Lx.cmpF_zero.2 e)
    simp [h, h2]

theorem Lx.take_ne {la lb : List Lx.Form} {k : Nat} {a b : Lx.Form} (ha : la[k]? = some a) (hb : lb[k]? = some b) (h : a ≠ b) : la ≠ lb := fun e => by subst e; rw [ha] at hb; cases hb; exact h rfl
theorem Lx.take_next {la lb : List Lx.Form} {k : Nat} {a : Lx.Form} (ha : la[k]? = some a) (hb : lb[k]? = some a) (h : la.take k = lb.take k) : la.take (k + 1) = lb.take (k + 1) := by
  rw [List.take_add_one, List.take_add_one, ha, hb, h]

structure SfR (T0 : Array Value) (W0 : World) (b1 o1 n c0 b2 o2 n2 c1 k : Nat) (p q : Lx.Form) (s1 s2 : Value) (r : Bool) (d : Array Bool) (t : Array Value) (wc : World) : Prop where
  bel : Below W0.heap.size W0 wc
  siz : t.size = 27
  kp : ∀ i, i ∉ ([17, 18, 19, 20, 21, 22, 23, 24, 25, 26] : List Nat) → t[i]? = T0[i]?
  k0 : t[0]? = some ((.slice (some ⟨b1, o1, none⟩) n c0))
  k1 : t[1]? = some ((.slice (some ⟨b2, o2, none⟩) n2 c1))
  k5 : t[5]? = some (.int .i64 (k : Int))
  p0 : dn d 0 → t[17]? = some ((.slice (some ⟨b1, o1, none⟩) n c0))
  p1 : dn d 1 → t[18]? = some (.int .i64 (k : Int))
  p2 : dn d 2 → t[19]? = some (.pointer (some ⟨b1, o1 + k * 3, none⟩))
  p3 : dn d 3 → t[20]? = some ((.agg #[.int .i64 p.entry, .int .i64 p.ending, s1]))
  p4 : dn d 4 → t[21]? = some ((.slice (some ⟨b2, o2, none⟩) n2 c1))
  p5 : dn d 5 → t[22]? = some (.int .i64 (k : Int))
  p6 : dn d 6 → t[23]? = some (.pointer (some ⟨b2, o2 + k * 3, none⟩))
  p7 : dn d 7 → t[24]? = some ((.agg #[.int .i64 q.entry, .int .i64 q.ending, s2]))
  p8 : dn d 8 → t[25]? = some (.bool r)
  p9 : dn d 9 → t[26]? = some (.bool (!r))
def SfI (T0 : Array Value) (W0 : World) (b1 o1 n c0 b2 o2 n2 c1 k : Nat) (p q : Lx.Form) (s1 s2 : Value) (r : Bool) (d : Array Bool) (a : Act) (wc : World) : Prop := ∃ t : Array Value, a = ⟨t, []⟩ ∧ SfR T0 W0 b1 o1 n c0 b2 o2 n2 c1 k p q s1 s2 r d t wc

set_option maxRecDepth 100000 in
set_option maxHeartbeats 4000000 in
theorem SameForms_any (va vb : Value) (la lb : List Lx.Form) (w : World) (ok : Nat → Prop) (hok : ∀ b, ok b → b < w.heap.size) (ha : RdG KForm w ok va la) (hb : RdG KForm w ok vb lb) (hsa : ∀ f ∈ la, FSmall f) (hsb : ∀ f ∈ lb, FSmall f) :
    Calls Tryd.prog 11 #[va, vb] w (RetBB (decide (la = lb)) w) := by
  have HSA := Lib.hid hsa
  have HSB := Lib.hid hsb
  have HOK := Lib.hid hok
  have HA : Hid (∀ W : World, Below w.heap.size w W → RdG KForm W ok va la) := Lib.hid fun W hW => ha.keep fun b hb => ⟨hb, hW.block b (hok b hb)⟩
  have HB : Hid (∀ W : World, Below w.heap.size w W → RdG KForm W ok vb lb) := Lib.hid fun W hW => hb.keep fun b hb => ⟨hb, hW.block b (hok b hb)⟩
  obtain ⟨A0, c0, rfl, hla, hca, -⟩ := ha
  obtain ⟨A1, c1, rfl, hlb, hcb, -⟩ := hb
  have hn0 : la.length ≤ 9223372036854775807 := by omega
  have hn1 : lb.length ≤ 9223372036854775807 := by omega
  clear hok hsa hsb hla hlb hca hcb
  go_enter Tryd.func11, Tryd.ntmps11
  by_cases hl : la.length = lb.length
  · have hq : ((la.length : Int) == (lb.length : Int)) = true := by simp [hl]
    have HL := Lib.hid hl
    clear hl
    go_wp2_with fail
    go_loopg [5] la.length (fun g i wr => ∃ k : Nat, k ≤ la.length ∧ g = la.length - k ∧ i = .int .i64 k ∧ Below w.heap.size w wr ∧ la.take k = lb.take k)
    case atStart => exact ⟨0, Nat.zero_le _, rfl, rfl, Below.refl _ _, rfl⟩
    case round =>
      obtain ⟨k, hk, rfl, rfl, hbel, heq⟩ := hrel
      have HBEL := Lib.hid hbel
      have HEQ := Lib.hid heq
      clear heq
      by_cases hlt : k < la.length
      · have hltI : (k : Int) < (la.length : Int) := by omega
        have hltJ : (k : Int) < (lb.length : Int) := by have := HL.out; omega
        obtain ⟨p, hp⟩ : ∃ p, la[k]? = some p := ⟨_, List.getElem?_eq_getElem hlt⟩
        obtain ⟨q, hq'⟩ : ∃ q, lb[k]? = some q := ⟨_, List.getElem?_eq_getElem (by have := HL.out; omega)⟩
        have HSP := Lib.hid (HSA.out p (List.mem_of_getElem? hp))
        have HSQ := Lib.hid (HSB.out q (List.mem_of_getElem? hq'))
        obtain ⟨b1, o1, rfl, hb1, hc1⟩ := (HA.out wr hbel).at (by omega)
        obtain ⟨b2, o2, rfl, hb2, hc2⟩ := (HB.out wr hbel).at (by have := HL.out; omega)
        obtain ⟨cs1, ⟨s1, rfl, hr1⟩, hd1⟩ := hc1 k p hp
        obtain ⟨cs2, ⟨s2, rfl, hr2⟩, hd2⟩ := hc2 k q hq'
        have y0 : wr.cell? ⟨b1, o1 + k * 3, none⟩ = some (.int .i64 p.entry) := hd1 0 _ rfl
        have y1 : wr.cell? ⟨b1, o1 + k * 3 + 1, none⟩ = some (.int .i64 p.ending) := hd1 1 _ rfl
        have y2 : wr.cell? ⟨b1, o1 + k * 3 + 2, none⟩ = some s1 := hd1 2 _ rfl
        have z0 : wr.cell? ⟨b2, o2 + k * 3, none⟩ = some (.int .i64 q.entry) := hd2 0 _ rfl
        have z1 : wr.cell? ⟨b2, o2 + k * 3 + 1, none⟩ = some (.int .i64 q.ending) := hd2 1 _ rfl
        have z2 : wr.cell? ⟨b2, o2 + k * 3 + 2, none⟩ = some s2 := hd2 2 _ rfl
        have HSF : Hid (∀ W : World, Below w.heap.size wr W → Calls Tryd.prog 20 #[.agg #[.int .i64 p.entry, .int .i64 p.ending, s1], .agg #[.int .i64 q.entry, .int .i64 q.ending, s2]] W (RetBB (decide (p = q)) W)) := Lib.hid fun W hW => by
          have hsz : w.heap.size ≤ W.heap.size := Nat.le_trans hbel.size hW.size
          exact SameForm_any _ _ p q W
            ⟨⟨s1, rfl, (hr1.keep (w' := W) (ok' := fun b => b < W.heap.size) (fun b hb => ⟨by have := HOK.out b hb; omega, hW.block b (HOK.out b hb)⟩)).to (fun b hb => hb)⟩⟩
            ⟨⟨s2, rfl, (hr2.keep (w' := W) (ok' := fun b => b < W.heap.size) (fun b hb => ⟨by have := HOK.out b hb; omega, hW.block b (HOK.out b hb)⟩)).to (fun b hb => hb)⟩⟩ HSP.out HSQ.out
        obtain ⟨S1, k1, rfl, -⟩ := hr1
        obtain ⟨S2, k2, rfl, -⟩ := hr2
        have HP := Lib.hid hp
        have HQ := Lib.hid hq'
        clear hc1 hc2 hd1 hd2 hp hq' hbel
        go_upto_region 6 with fail
        go_cut [26] (fun t wc => t = .bool (!decide (p = q)) ∧ Below w.heap.size w wc)
        case first =>
          have hwsz := HBEL.out.size
          have hbc' : Hid (∀ W : World, Below wr.heap.size wr W → W.cell? ⟨b1, o1 + k * 3, none⟩ = some (.int .i64 p.entry) ∧ W.cell? ⟨b1, o1 + k * 3 + 1, none⟩ = some (.int .i64 p.ending) ∧ W.cell? ⟨b1, o1 + k * 3 + 2, none⟩ = some (.slice S1 p.clitics.length k1) ∧
              W.cell? ⟨b2, o2 + k * 3, none⟩ = some (.int .i64 q.entry) ∧ W.cell? ⟨b2, o2 + k * 3 + 1, none⟩ = some (.int .i64 q.ending) ∧ W.cell? ⟨b2, o2 + k * 3 + 2, none⟩ = some (.slice S2 q.clitics.length k2)) := Lib.hid fun W hW => by
            have g1 : b1 < wr.heap.size := Nat.lt_of_lt_of_le (HOK.out _ hb1) hwsz
            have g2 : b2 < wr.heap.size := Nat.lt_of_lt_of_le (HOK.out _ hb2) hwsz
            exact ⟨(hW.cell (p := ⟨b1, o1 + k * 3, none⟩) g1).trans y0, (hW.cell (p := ⟨b1, o1 + k * 3 + 1, none⟩) g1).trans y1, (hW.cell (p := ⟨b1, o1 + k * 3 + 2, none⟩) g1).trans y2,
              (hW.cell (p := ⟨b2, o2 + k * 3, none⟩) g2).trans z0, (hW.cell (p := ⟨b2, o2 + k * 3 + 1, none⟩) g2).trans z1, (hW.cell (p := ⟨b2, o2 + k * 3 + 2, none⟩) g2).trans z2⟩
          refine wp_region_inv2T (fun T0 => SfI T0 wr b1 o1 la.length c0 b2 o2 lb.length c1 k p q (.slice S1 p.clitics.length k1) (.slice S2 q.clitics.length k2) (decide (p = q))) (by kernel_rfl) (by kernel_rfl) ?g0 ?gstep ?gend
          case g0 =>
            have hno : ∀ j, ¬ dn (Array.replicate 10 false) j := by
              intro j; unfold dn; by_cases hj : j < 10 <;> simp [Array.getD, hj]
            have na : ∀ {j : Nat} {Z : Prop}, dn (Array.replicate 10 false) j → Z := fun hj => absurd hj (hno _)
            exact ⟨_, rfl, { bel := (Below.refl _ _).drew, siz := rfl, kp := fun _ _ => rfl, k0 := rfl, k1 := rfl, k5 := rfl, p0 := na, p1 := na, p2 := na, p3 := na, p4 := na, p5 := na, p6 := na, p7 := na, p8 := na, p9 := na }⟩
          case gstep =>
            intro T0 d a wc i hd hI hi
            obtain ⟨hlt, hnd, hpre⟩ := mem_ready hi
            have hd' : d.size = 10 := hd
            have hin : i < 10 := hlt
            clear hi hd hlt
            obtain ⟨t, rfl, h⟩ := hI
            have hcs : i = 0 ∨ i = 1 ∨ i = 2 ∨ i = 3 ∨ i = 4 ∨ i = 5 ∨ i = 6 ∨ i = 7 ∨ i = 8 ∨ i = 9 := by omega
            rcases hcs with rfl | rfl | rfl | rfl | rfl | rfl | rfl | rfl | rfl | rfl
            · have hi : 0 < d.size := by omega
              have q0 := h.k0
              refine wpOp_plain rfl rfl ?_
              go_simp
              exact ⟨_, rfl, { bel := h.bel, siz := (by simpa using h.siz), kp := rk h.kp, k0 := rs h.k0, k1 := rs h.k1, k5 := rs h.k5, p0 := fun _ => set_same (by have := h.siz; omega), p1 := rp hi h.p1, p2 := rp hi h.p2, p3 := rp hi h.p3, p4 := rp hi h.p4, p5 := rp hi h.p5, p6 := rp hi h.p6, p7 := rp hi h.p7, p8 := rp hi h.p8, p9 := rp hi h.p9 }⟩
            · have hi : 1 < d.size := by omega
              have q5 := h.k5
              refine wpOp_plain rfl rfl ?_
              go_simp
              exact ⟨_, rfl, { bel := h.bel, siz := (by simpa using h.siz), kp := rk h.kp, k0 := rs h.k0, k1 := rs h.k1, k5 := rs h.k5, p0 := rp hi h.p0, p1 := fun _ => set_same (by have := h.siz; omega), p2 := rp hi h.p2, p3 := rp hi h.p3, p4 := rp hi h.p4, p5 := rp hi h.p5, p6 := rp hi h.p6, p7 := rp hi h.p7, p8 := rp hi h.p8, p9 := rp hi h.p9 }⟩
            · have hi : 2 < d.size := by omega
              have e0 := h.p0 (hpre _ rfl ⟨0, .data⟩ (by simp) rfl)
              have e1 := h.p1 (hpre _ rfl ⟨1, .data⟩ (by simp) rfl)
              refine wpOp_plain rfl rfl ?_
              go_simp
              exact ⟨_, rfl, { bel := h.bel, siz := (by simpa using h.siz), kp := rk h.kp, k0 := rs h.k0, k1 := rs h.k1, k5 := rs h.k5, p0 := rp hi h.p0, p1 := rp hi h.p1, p2 := fun _ => set_same (by have := h.siz; omega), p3 := rp hi h.p3, p4 := rp hi h.p4, p5 := rp hi h.p5, p6 := rp hi h.p6, p7 := rp hi h.p7, p8 := rp hi h.p8, p9 := rp hi h.p9 }⟩
            · have hi : 3 < d.size := by omega
              have e2 := h.p2 (hpre _ rfl ⟨2, .data⟩ (by simp) rfl)
              have z0' := (hbc'.out wc h.bel).1
              have z1' := (hbc'.out wc h.bel).2.1
              have z2' := (hbc'.out wc h.bel).2.2.1
              refine wpOp_plain rfl rfl ?_
              go_simp
              exact ⟨_, rfl, { bel := h.bel, siz := (by simpa using h.siz), kp := rk h.kp, k0 := rs h.k0, k1 := rs h.k1, k5 := rs h.k5, p0 := rp hi h.p0, p1 := rp hi h.p1, p2 := rp hi h.p2, p3 := fun _ => set_same (by have := h.siz; omega), p4 := rp hi h.p4, p5 := rp hi h.p5, p6 := rp hi h.p6, p7 := rp hi h.p7, p8 := rp hi h.p8, p9 := rp hi h.p9 }⟩
            · have hi : 4 < d.size := by omega
              have q1 := h.k1
              refine wpOp_plain rfl rfl ?_
              go_simp
              exact ⟨_, rfl, { bel := h.bel, siz := (by simpa using h.siz), kp := rk h.kp, k0 := rs h.k0, k1 := rs h.k1, k5 := rs h.k5, p0 := rp hi h.p0, p1 := rp hi h.p1, p2 := rp hi h.p2, p3 := rp hi h.p3, p4 := fun _ => set_same (by have := h.siz; omega), p5 := rp hi h.p5, p6 := rp hi h.p6, p7 := rp hi h.p7, p8 := rp hi h.p8, p9 := rp hi h.p9 }⟩
            · have hi : 5 < d.size := by omega
              have q5 := h.k5
              refine wpOp_plain rfl rfl ?_
              go_simp
              exact ⟨_, rfl, { bel := h.bel, siz := (by simpa using h.siz), kp := rk h.kp, k0 := rs h.k0, k1 := rs h.k1, k5 := rs h.k5, p0 := rp hi h.p0, p1 := rp hi h.p1, p2 := rp hi h.p2, p3 := rp hi h.p3, p4 := rp hi h.p4, p5 := fun _ => set_same (by have := h.siz; omega), p6 := rp hi h.p6, p7 := rp hi h.p7, p8 := rp hi h.p8, p9 := rp hi h.p9 }⟩
            · have hi : 6 < d.size := by omega
              have e4 := h.p4 (hpre _ rfl ⟨4, .data⟩ (by simp) rfl)
              have e5 := h.p5 (hpre _ rfl ⟨5, .data⟩ (by simp) rfl)
              refine wpOp_plain rfl rfl ?_
              go_simp
              exact ⟨_, rfl, { bel := h.bel, siz := (by simpa using h.siz), kp := rk h.kp, k0 := rs h.k0, k1 := rs h.k1, k5 := rs h.k5, p0 := rp hi h.p0, p1 := rp hi h.p1, p2 := rp hi h.p2, p3 := rp hi h.p3, p4 := rp hi h.p4, p5 := rp hi h.p5, p6 := fun _ => set_same (by have := h.siz; omega), p7 := rp hi h.p7, p8 := rp hi h.p8, p9 := rp hi h.p9 }⟩
            · have hi : 7 < d.size := by omega
              have e6 := h.p6 (hpre _ rfl ⟨6, .data⟩ (by simp) rfl)
              have z0' := (hbc'.out wc h.bel).2.2.2.1
              have z1' := (hbc'.out wc h.bel).2.2.2.2.1
              have z2' := (hbc'.out wc h.bel).2.2.2.2.2
              refine wpOp_plain rfl rfl ?_
              go_simp
              exact ⟨_, rfl, { bel := h.bel, siz := (by simpa using h.siz), kp := rk h.kp, k0 := rs h.k0, k1 := rs h.k1, k5 := rs h.k5, p0 := rp hi h.p0, p1 := rp hi h.p1, p2 := rp hi h.p2, p3 := rp hi h.p3, p4 := rp hi h.p4, p5 := rp hi h.p5, p6 := rp hi h.p6, p7 := fun _ => set_same (by have := h.siz; omega), p8 := rp hi h.p8, p9 := rp hi h.p9 }⟩
            · have hi : 8 < d.size := by omega
              have e3 := h.p3 (hpre _ rfl ⟨3, .data⟩ (by simp) rfl)
              have e7 := h.p7 (hpre _ rfl ⟨7, .data⟩ (by simp) rfl)
              refine wpOp_plain rfl rfl ?_
              go_simp
              refine (HSF.out wc (h.bel.mono hwsz)).mono ?_
              rintro e1 w1 ⟨rfl, hb⟩
              exact ⟨_, rfl, { bel := h.bel.trans (hb.mono h.bel.size), siz := (by simpa using h.siz), kp := rk h.kp, k0 := rs h.k0, k1 := rs h.k1, k5 := rs h.k5, p0 := rp hi h.p0, p1 := rp hi h.p1, p2 := rp hi h.p2, p3 := rp hi h.p3, p4 := rp hi h.p4, p5 := rp hi h.p5, p6 := rp hi h.p6, p7 := rp hi h.p7, p8 := fun _ => set_same (by have := h.siz; omega), p9 := rp hi h.p9 }⟩
            · have hi : 9 < d.size := by omega
              have e8 := h.p8 (hpre _ rfl ⟨8, .data⟩ (by simp) rfl)
              refine wpOp_plain rfl rfl ?_
              go_simp
              exact ⟨_, rfl, { bel := h.bel, siz := (by simpa using h.siz), kp := rk h.kp, k0 := rs h.k0, k1 := rs h.k1, k5 := rs h.k5, p0 := rp hi h.p0, p1 := rp hi h.p1, p2 := rp hi h.p2, p3 := rp hi h.p3, p4 := rp hi h.p4, p5 := rp hi h.p5, p6 := rp hi h.p6, p7 := rp hi h.p7, p8 := rp hi h.p8, p9 := fun _ => set_same (by have := h.siz; omega) }⟩
          case gend =>
            intro d a wc hd hI hall
            obtain ⟨t, rfl, h⟩ := hI
            have hdn : ∀ j, j < 10 → dn d j := fun j hj => dn_all hd hall hj
            have hd : ∀ j, (_ : j < 10 := by decide) → dn d j := fun j hj => hdn j hj
            have hfe := frame_eq [(17, _), (18, _), (19, _), (20, _), (21, _), (22, _), (23, _), (24, _), (25, _), (26, _)] (h.siz.trans rfl) h.kp rfl ⟨h.p0 (hd 0), h.p1 (hd 1), h.p2 (hd 2), h.p3 (hd 3), h.p4 (hd 4), h.p5 (hd 5), h.p6 (hd 6), h.p7 (hd 7), h.p8 (hd 8), h.p9 (hd 9), trivial⟩
            simp only [List.foldl_cons, List.foldl_nil, List.setIfInBounds_toArray, List.set_cons_succ, List.set_cons_zero] at hfe
            have hbc := h.bel
            subst hfe
            clear h hdn hd hall
            go_wp2_with fail
            go_meet
            go_light
            exact ⟨rfl, HBEL.out.trans (hbc.mono hwsz)⟩
        case rest =>
          rename World => wk
          obtain ⟨rfl, hbk⟩ := hcut
          have HBK := Lib.hid hbk
          clear hbk y0 y1 y2 z0 z1 z2
          by_cases hpq : p = q
          · have hd : (!decide (p = q)) = false := by simp [hpq]
            have HN : Hid (la.take (k + 1) = lb.take (k + 1)) := Lib.hid (Lx.take_next HP.out (hpq ▸ HQ.out) HEQ.out)
            rw [hd]
            clear hpq hd
            go_wp2_with fail
            go_roundg (la.length - (k + 1))
            case measure => omega
            case rel => exact ⟨k + 1, by omega, rfl, by go_num, HBK.out, HN.out⟩
          · have hd : (!decide (p = q)) = true := by simp [hpq]
            have HN : Hid (decide (la = lb) = false) := Lib.hid (by simpa using Lx.take_ne HP.out HQ.out hpq)
            rw [hd]
            clear hpq hd
            go_wp2_with fail
            go_ret
            exact ⟨ret_bool HN.out.symm, HBK.out⟩
      · have HN : Hid (decide (la = lb) = true) := Lib.hid (by
          have h := HEQ.out
          have e := HL.out
          rw [List.take_of_length_le (by omega), List.take_of_length_le (by omega)] at h
          simp [h])
        go_wp2_with fail
        go_ret
        exact ⟨ret_bool HN.out.symm, HBEL.out⟩
  · have hq : ((la.length : Int) == (lb.length : Int)) = false := by simp; omega
    have HN : Hid (decide (la = lb) = false) := Lib.hid (by simp; intro e; exact hl (by rw [e]))
    clear hl
    go_wp2_with fail
    go_ret
    exact ⟨ret_bool HN.out.symm, Below.refl _ _⟩
end Go.Proofs.YtpmnpnlfgfleeaaDoor
