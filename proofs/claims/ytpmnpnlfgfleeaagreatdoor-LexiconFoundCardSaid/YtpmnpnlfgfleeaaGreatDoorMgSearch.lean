/- The closure of add; slices.BinarySearchFunc with it. -/
import Derived.Test.YtpmnpnlfgfleeaaGreatDoorMgRank2
namespace Go.Proofs.YtpmnpnlfgfleeaaGreatDoor
open Go.RowKit

def Lx.addC (c : Int) : Int := if c = 0 then -1 else c
theorem Lx.addC_or (c : Int) : Lx.orV [c, -1] = Lx.addC c := by
  unfold Lx.orV Lx.orV Lx.addC
  by_cases h : c = 0
  · rw [if_pos h, if_pos h]; simp
  · rw [if_neg h, if_neg h]
/-- what is known of the list's box, of the closure's captured cell -/
structure Ranked (w : World) (g R most : Nat) (tv : Value) : Prop where
  cap : w.cell? ⟨g, 0, none⟩ = some (.pointer (some ⟨R, 0, none⟩))
  box : ∃ v, w.heap[R]? = some (.cells #[v, .int .i64 most, .func (.func 63) #[tv] #[]] 113 (0, 0))
  glt : g < w.heap.size
theorem Ranked.keep {w w' : World} {g R most : Nat} {tv : Value} (h : Ranked w g R most tv) (hb : Below w.heap.size w w') : Ranked w' g R most tv := by
  obtain ⟨v, hv⟩ := h.box
  exact ⟨(hb.cell (p := ⟨g, 0, none⟩) h.glt).trans h.cap, ⟨v, (hb.block R (Array.getElem?_eq_some_iff.1 hv).1).trans hv⟩, Nat.lt_of_lt_of_le h.glt hb.size⟩

set_option maxRecDepth 100000 in
set_option maxHeartbeats 2000000 in
theorem add1_any (a0 a1 a2 a3 a4 : Value) (S0 g R most : Nat) (p q : Option Addr) (a b : Lx.Tail) (w : World) (hone : ∀ u ∈ [a0, a1, a2, a3, a4], u.oneCell' = true) (hk : Ranked w g R most (.agg #[a0, a1, a2, a3, a4])) (ha : RdTl w S0 p a) (hb : RdTl w S0 q b) (hS : S0 ≤ w.heap.size) (hna : a ≠ []) (hnb : b ≠ [])
    (hca : ∀ f ∈ a.map (·.2), f.clitics.length ≤ 1000) (hcb : ∀ f ∈ b.map (·.2), f.clitics.length ≤ 1000) :
    Calls Tryz.prog 91 #[.pointer p, .pointer q, .pointer (some ⟨g, 0, none⟩)] w (RetIB (Lx.addC (Lx.tC a b)) w) := by
  have HT : Hid (∀ W : World, W.heap = w.heap → Calls Tryz.prog 63 #[.agg #[a0, a1, a2, a3, a4], .pointer p, .pointer q] W (RetIB (Lx.tC a b) W)) := Lib.hid fun W hW =>
    tcompare_any a0 a1 a2 a3 a4 S0 p q a b W hone (ha.keep ⟨by rw [hW]; exact Nat.le_refl _, fun b _ => by rw [hW], fun b cs fr _ => by rw [hW]⟩) (hb.keep ⟨by rw [hW]; exact Nat.le_refl _, fun b _ => by rw [hW], fun b cs fr _ => by rw [hW]⟩) (by rw [hW]; exact hS) hna hnb hca hcb
  obtain ⟨hcap, ⟨v, hbox⟩, -⟩ := hk
  have r2 : w.cell? ⟨R, 2, none⟩ = some (.func (.func 63) #[.agg #[a0, a1, a2, a3, a4]] #[]) := by simp [World.cell?, hbox]
  generalize hc : Lx.tC a b = c at *
  clear hc hone ha hb hS hna hnb hca hcb hbox
  go_enter Tryz.func91, Tryz.ntmps91
  go_wp2_with fail
  refine (HT.out w rfl).mono ?_
  rintro e1 w1 ⟨rfl, hb1⟩
  have HB1 := Lib.hid hb1
  clear hb1 HT
  go_wp2_with fail
  have hal : Below w1.heap.size w1 (w1.alloc (.cells #[.int .i64 c, .int .i64 (-1)] 3)) := (Below.refl _ _).alloc (Nat.le_refl _) _
  refine (cmpOr_any _ [c, -1] _ (w1.heap.size + 1) (rds_block (xs := [c, -1]) len_int (heap_alloc_new _ _) rfl (by omega) (Nat.le_refl 2) (by decide)) (by simp)).mono ?_
  rw [Lx.addC_or]
  rintro e2 w2 ⟨rfl, rfl⟩
  have HB2 := Lib.hid (HB1.out.trans (hal.mono HB1.out.size))
  clear hal
  go_wp2_with fail
  go_ret
  exact ⟨rfl, HB2.out⟩

def BsPost (i : Nat) (w : World) (e : Ending) (w' : World) : Prop := ∃ b, e = .returned (.tuple #[.int .i64 (i : Int), .bool b]) ∧ Below w.heap.size w w'
theorem addC_neg (c : Int) : decide (Lx.addC c < 0) = !decide (0 < c) := by
  unfold Lx.addC
  by_cases h : c = 0
  · rw [if_pos h, h]; rfl
  · rw [if_neg h]
    by_cases h2 : c < 0
    · simp [h2]; omega
    · simp [h2]; omega

set_option maxRecDepth 100000 in
set_option maxHeartbeats 8000000 in
theorem bsearch_any (i : Nat) (cap : Value) (l : List Lx.Tail) (ps : List (Option Addr)) (t : Lx.Tail) (p : Option Addr) (v : Value) (w : World) (B : Nat) (hB : B ≤ w.heap.size) (hv : RdS w B 1 encP v ps) (hlen : ps.length = l.length) (hn : l.length ≤ 1000)
    (hasc : Lx.AscT l) (hlo : ∀ j y, j < i → l[j]? = some y → Lx.rb (Lx.cutOf t) (Lx.cutOf y) = false) (hhi : ∀ y, l[i]? = some y → Lx.rb (Lx.cutOf t) (Lx.cutOf y) = true) (hi : i ≤ l.length)
    (hcall : ∀ (W : World) (j : Nat) (y : Lx.Tail) (q : Option Addr), Below w.heap.size w W → l[j]? = some y → ps[j]? = some q → Calls Tryz.prog 91 #[.pointer q, .pointer p, cap] W (fun e W' => ∃ c, e = .returned (.int .i64 c) ∧ decide (c < 0) = !Lx.rb (Lx.cutOf t) (Lx.cutOf y) ∧ Below W.heap.size W W')) :
    Calls Tryz.prog 90 #[v, .pointer p, .func (.func 91) #[] #[cap]] w (BsPost i w) := by
  obtain ⟨A, c, rfl, -, -, hat⟩ := hv
  have HAT := Lib.hid hat
  have HC := Lib.hid hcall
  have HASC := Lib.hid hasc
  have HLO := Lib.hid hlo
  have HHI := Lib.hid hhi
  rw [hlen]
  have HLEN := Lib.hid hlen
  clear hat hcall hasc hlo hhi hlen
  go_enter Tryz.func90, Tryz.ntmps90
  go_wp2_with fail
  go_loopg [9, 10] l.length (fun g a b wr => ∃ lo hi : Nat, lo ≤ i ∧ i ≤ hi ∧ hi ≤ l.length ∧ g = hi - lo ∧ a = .int .i64 lo ∧ b = .int .i64 hi ∧ Below w.heap.size w wr)
  case atStart => exact ⟨0, l.length, Nat.zero_le _, hi, Nat.le_refl _, rfl, rfl, rfl, Below.refl _ _⟩
  case round =>
    obtain ⟨lo, hi', h1, h2, h3, rfl, rfl, rfl, hbel⟩ := hrel
    have HBEL := Lib.hid hbel
    by_cases hlt : lo < hi'
    · have hltI : (lo : Int) < (hi' : Int) := by omega
      obtain ⟨m, hmd⟩ : ∃ m, m = (lo + hi') / 2 := ⟨_, rfl⟩
      have hm : ((lo : Int) + (hi' : Int)) / 2 = (m : Int) := by omega
      have hm1 : lo ≤ m := by omega
      have hm2 : m < hi' := by omega
      have hm3 : m < l.length := by omega
      have hm3I : (m : Int) < (l.length : Int) := by omega
      obtain ⟨y, hy⟩ : ∃ y, l[m]? = some y := ⟨_, List.getElem?_eq_getElem hm3⟩
      obtain ⟨q, hq⟩ : ∃ q, ps[m]? = some q := ⟨_, List.getElem?_eq_getElem (by have := HLEN.out; omega)⟩
      obtain ⟨b, off, rfl, hb, hc⟩ := HAT.out (by have := HLEN.out; omega)
      have y0 : wr.cell? ⟨b, off + m, none⟩ = some (.pointer q) := by
        have h := hc m q hq 0 _ rfl
        rw [Nat.mul_one, Nat.add_zero] at h
        exact (HBEL.out.cell (p := ⟨b, off + m, none⟩) (Nat.lt_of_lt_of_le hb hB)).trans h
      have HCM := Lib.hid (HC.out wr m y q HBEL.out hy hq)
      have HY := Lib.hid hy
      have HM := Lib.hid hmd
      clear hbel hmd hy hq hc
      go_wp2_with fail
      refine HCM.out.mono ?_
      rintro e1 w1 ⟨c1, rfl, hc1, hb1⟩
      have HB1 := Lib.hid (HBEL.out.trans (hb1.mono HBEL.out.size))
      clear hb1 y0
      cases hr : Lx.rb (Lx.cutOf t) (Lx.cutOf y)
      · rw [hr] at hc1
        have hneg : c1 < 0 := by simpa using hc1
        have HI : Hid (m + 1 ≤ i) := Lib.hid (by
          rcases Nat.lt_or_ge m i with h | h
          · exact h
          · have hil : i < l.length := by omega
            have h5 := Lx.up_of HASC.out (t := t) h (List.getElem?_eq_getElem hil) HY.out (HHI.out _ (List.getElem?_eq_getElem hil))
            rw [hr] at h5
            cases h5)
        clear hr hc1
        go_wp2_with fail
        go_roundg (hi' - (m + 1))
        case measure => omega
        case rel => exact ⟨m + 1, hi', HI.out, h2, h3, rfl, by go_num, rfl, HB1.out⟩
      · rw [hr] at hc1
        have hneg : ¬ c1 < 0 := by simpa using hc1
        have HI : Hid (i ≤ m) := Lib.hid (by
          rcases Nat.lt_or_ge m i with h | h
          · rw [HLO.out m y h HY.out] at hr; cases hr
          · exact h)
        clear hr hc1
        go_wp2_with fail
        go_roundg (m - lo)
        case measure => omega
        case rel => exact ⟨lo, m, h1, HI.out, by omega, rfl, rfl, rfl, HB1.out⟩
    · have hltI : ¬ (lo : Int) < (hi' : Int) := by omega
      have hloi : lo = i := by omega
      subst hloi
      clear hbel
      by_cases hil : lo < l.length
      · have hilI : (lo : Int) < (l.length : Int) := by omega
        obtain ⟨y, hy⟩ : ∃ y, l[lo]? = some y := ⟨_, List.getElem?_eq_getElem hil⟩
        obtain ⟨q, hq⟩ : ∃ q, ps[lo]? = some q := ⟨_, List.getElem?_eq_getElem (by have := HLEN.out; omega)⟩
        obtain ⟨b, off, rfl, hb, hc⟩ := HAT.out (by have := HLEN.out; omega)
        have y0 : wr.cell? ⟨b, off + lo, none⟩ = some (.pointer q) := by
          have h := hc lo q hq 0 _ rfl
          rw [Nat.mul_one, Nat.add_zero] at h
          exact (HBEL.out.cell (p := ⟨b, off + lo, none⟩) (Nat.lt_of_lt_of_le hb hB)).trans h
        have HCM := Lib.hid (HC.out wr lo y q HBEL.out hy hq)
        clear hy hq hc
        go_wp2_with fail
        refine HCM.out.mono ?_
        rintro e1 w1 ⟨c1, rfl, hc1, hb1⟩
        have HB1 := Lib.hid (HBEL.out.trans (hb1.mono HBEL.out.size))
        clear hb1 y0 hc1
        go_wp2_with fail
        go_ret2
        exact ⟨_, rfl, HB1.out⟩
      · have hilI : ¬ (lo : Int) < (l.length : Int) := by omega
        go_wp2_with fail
        go_ret2
        exact ⟨_, rfl, HBEL.out⟩
end Go.Proofs.YtpmnpnlfgfleeaaGreatDoor
