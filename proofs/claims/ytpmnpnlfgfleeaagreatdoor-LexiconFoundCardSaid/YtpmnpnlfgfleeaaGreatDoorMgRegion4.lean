/- slices.Compare at ints, cmp.Or at ints. As XRegion2, the frame handed to the relation. Short words for the steps of a region. -/
import Derived.Test.YtpmnpnlfgfleeaaGreatDoorMgRankProg
import Derived.Test.YtpmnpnlfgfleeaaGreatDoorMgRTails
import Derived.Test.YtpmnpnlfgfleeaaGreatDoorMgWeight
import Derived.Test.YtpmnpnlfgfleeaaGreatDoorMgGlossPlain
namespace Go.Proofs.YtpmnpnlfgfleeaaGreatDoor
open Go.RowKit

def Lx.orV : List Int → Int
  | [] => 0
  | a :: r => if a = 0 then orV r else a
theorem Lx.orV_drop {xs : List Int} {k : Nat} {a : Int} (h : xs[k]? = some a) : Lx.orV (xs.drop k) = if a = 0 then Lx.orV (xs.drop (k + 1)) else a := by
  obtain ⟨h1, rfl⟩ := List.getElem?_eq_some_iff.1 h
  rw [List.drop_eq_getElem_cons h1, Lx.orV]
theorem Lx.slC_drop {us bs : List Int} {k : Nat} {a b : Int} (ha : us[k]? = some a) (hb : bs[k]? = some b) : Lx.slC (us.drop k) (bs.drop k) = if Lib.compareInt a b = 0 then Lx.slC (us.drop (k + 1)) (bs.drop (k + 1)) else Lib.compareInt a b := by
  obtain ⟨h1, rfl⟩ := List.getElem?_eq_some_iff.1 ha
  obtain ⟨h2, rfl⟩ := List.getElem?_eq_some_iff.1 hb
  rw [List.drop_eq_getElem_cons h1, List.drop_eq_getElem_cons h2, Lx.slC]
theorem Lx.slC_long {us bs : List Int} {k : Nat} (ha : k < us.length) (hb : bs.length ≤ k) : Lx.slC (us.drop k) (bs.drop k) = 1 := by
  rw [List.drop_eq_getElem_cons ha, List.drop_eq_nil_of_le hb, Lx.slC]
theorem Lx.slC_short {us bs : List Int} {k : Nat} (ha : us.length = k) (hb : k ≤ bs.length) : Lx.slC (us.drop k) (bs.drop k) = if us.length < bs.length then -1 else 0 := by
  rw [List.drop_eq_nil_of_le (Nat.le_of_eq ha)]
  cases hd : bs.drop k with
  | nil =>
    have := congrArg List.length hd
    rw [List.length_drop, List.length_nil] at this
    rw [if_neg (by omega)]
    rfl
  | cons b r =>
    have := congrArg List.length hd
    rw [List.length_drop, List.length_cons] at this
    rw [if_pos (by omega)]
    rfl
def RetI (n : Int) (w : World) (e : Ending) (w' : World) : Prop := e = .returned (.int .i64 n) ∧ w' = w

set_option maxRecDepth 100000 in
set_option maxHeartbeats 2000000 in
theorem cmpOr_any (v : Value) (xs : List Int) (w : World) (B : Nat) (hv : RdS w B 1 encInt v xs) (hn : xs.length ≤ 1000) : Calls Tryz.prog 92 #[v] w (RetI (Lx.orV xs) w) := by
  obtain ⟨A, c, rfl, -, -, hat⟩ := hv
  have HAT := Lib.hid hat
  clear hat
  go_enter Tryz.func92, Tryz.ntmps92
  go_wp2_with fail
  go_loopg [8] xs.length (fun g i wr => ∃ k : Nat, k ≤ xs.length ∧ g = xs.length - k ∧ i = .int .i64 k ∧ wr = w ∧ Lx.orV xs = Lx.orV (xs.drop k))
  case atStart => exact ⟨0, Nat.zero_le _, rfl, rfl, rfl, rfl⟩
  case round =>
    obtain ⟨k, hk, rfl, rfl, rfl, heq⟩ := hrel
    have HEQ := Lib.hid heq
    clear heq
    by_cases hlt : k < xs.length
    · have hltI : (k : Int) < (xs.length : Int) := by omega
      obtain ⟨a, ha⟩ : ∃ a, xs[k]? = some a := ⟨_, List.getElem?_eq_getElem hlt⟩
      obtain ⟨b, off, rfl, hb, hc⟩ := HAT.out (by omega)
      have y0 : wr.cell? ⟨b, off + k, none⟩ = some (.int .i64 a) := by
        have h := hc k a ha 0 _ rfl
        rwa [Nat.mul_one, Nat.add_zero] at h
      have HN : Hid (Lx.orV xs = if a = 0 then Lx.orV (xs.drop (k + 1)) else a) := Lib.hid (HEQ.out.trans (Lx.orV_drop ha))
      clear hc ha
      by_cases h0 : a = 0
      · have hq : (a == 0) = true := by simp [h0]
        have hq' : (a != 0) = false := by simp [h0]
        have HN2 : Hid (Lx.orV xs = Lx.orV (xs.drop (k + 1))) := Lib.hid (by rw [HN.out, if_pos h0])
        clear h0
        go_wp2_with fail
        go_roundg (xs.length - (k + 1))
        case measure => omega
        case rel => exact ⟨k + 1, by omega, rfl, by go_num, rfl, HN2.out⟩
      · have hq : (a == 0) = false := by simp [h0]
        have hq' : (a != 0) = true := by simp [h0]
        have HN2 : Hid (Lx.orV xs = a) := Lib.hid (by rw [HN.out, if_neg h0])
        clear h0
        go_wp2_with fail
        go_ret
        exact ⟨ret_int HN2.out.symm, rfl⟩
    · have hltI : ¬ (k : Int) < (xs.length : Int) := by omega
      have HN2 : Hid (Lx.orV xs = 0) := Lib.hid (by rw [HEQ.out, List.drop_eq_nil_of_le (by omega)]; rfl)
      go_wp2_with fail
      go_ret
      exact ⟨ret_int HN2.out.symm, rfl⟩

set_option maxRecDepth 100000 in
set_option maxHeartbeats 4000000 in
theorem slCompare_any (va vb : Value) (us bs : List Int) (w : World) (B : Nat) (ha : RdS w B 1 encInt va us) (hb : RdS w B 1 encInt vb bs) (hna : us.length ≤ 1000) (hnb : bs.length ≤ 1000) : Calls Tryz.prog 108 #[va, vb] w (RetI (Lx.slC us bs) w) := by
  obtain ⟨A, c, rfl, -, -, hat⟩ := ha
  obtain ⟨A2, c2, rfl, -, -, hat2⟩ := hb
  have HAT := Lib.hid hat
  have HAT2 := Lib.hid hat2
  clear hat hat2
  go_enter Tryz.func108, Tryz.ntmps108
  go_wp2_with fail
  go_loopg [11] us.length (fun g i wr => ∃ k : Nat, k ≤ us.length ∧ k ≤ bs.length ∧ g = us.length - k ∧ i = .int .i64 k ∧ wr = w ∧ Lx.slC us bs = Lx.slC (us.drop k) (bs.drop k))
  case atStart => exact ⟨0, Nat.zero_le _, Nat.zero_le _, rfl, rfl, rfl, rfl⟩
  case round =>
    obtain ⟨k, hk, hk2, rfl, rfl, rfl, heq⟩ := hrel
    have HEQ := Lib.hid heq
    clear heq
    by_cases hlt : k < us.length
    · have hltI : (k : Int) < (us.length : Int) := by omega
      obtain ⟨a, ha⟩ : ∃ a, us[k]? = some a := ⟨_, List.getElem?_eq_getElem hlt⟩
      obtain ⟨b, off, rfl, hb, hc⟩ := HAT.out (by omega)
      have y0 : wr.cell? ⟨b, off + k, none⟩ = some (.int .i64 a) := by
        have h := hc k a ha 0 _ rfl
        rwa [Nat.mul_one, Nat.add_zero] at h
      by_cases hlt2 : k < bs.length
      · have hltJ : ¬ (bs.length : Int) ≤ (k : Int) := by omega
        have hltK : (k : Int) < (bs.length : Int) := by omega
        obtain ⟨a2, ha2⟩ : ∃ a2, bs[k]? = some a2 := ⟨_, List.getElem?_eq_getElem hlt2⟩
        obtain ⟨b2, off2, rfl, hb2, hc2⟩ := HAT2.out (by omega)
        have y2 : wr.cell? ⟨b2, off2 + k, none⟩ = some (.int .i64 a2) := by
          have h := hc2 k a2 ha2 0 _ rfl
          rwa [Nat.mul_one, Nat.add_zero] at h
        have HN : Hid (Lx.slC us bs = if Lib.compareInt a a2 = 0 then Lx.slC (us.drop (k + 1)) (bs.drop (k + 1)) else Lib.compareInt a a2) := Lib.hid (HEQ.out.trans (Lx.slC_drop ha ha2))
        clear hc hc2 ha ha2
        go_wp2_with fail
        refine (Tryz.cmp_Compare_int a a2 wr).mono ?_
        rintro e1 w1 ⟨rfl, rfl⟩
        generalize Lib.compareInt a a2 = r at HN
        by_cases h0 : r = 0
        · have hq : (r == 0) = true := by simp [h0]
          have hq' : (r != 0) = false := by simp [h0]
          have HN2 : Hid (Lx.slC us bs = Lx.slC (us.drop (k + 1)) (bs.drop (k + 1))) := Lib.hid (by rw [HN.out, if_pos h0])
          clear h0
          go_wp2_with fail
          go_roundg (us.length - (k + 1))
          case measure => omega
          case rel => exact ⟨k + 1, by omega, by omega, rfl, by go_num, rfl, HN2.out⟩
        · have hq : (r == 0) = false := by simp [h0]
          have hq' : (r != 0) = true := by simp [h0]
          have HN2 : Hid (Lx.slC us bs = r) := Lib.hid (by rw [HN.out, if_neg h0])
          clear h0
          go_wp2_with fail
          go_ret
          exact ⟨ret_int HN2.out.symm, rfl⟩
      · have hltJ : (bs.length : Int) ≤ (k : Int) := by omega
        have HN2 : Hid (Lx.slC us bs = 1) := Lib.hid (HEQ.out.trans (Lx.slC_long hlt (by omega)))
        clear hc ha
        go_wp2_with fail
        go_ret
        exact ⟨ret_int HN2.out.symm, rfl⟩
    · have hltI : ¬ (k : Int) < (us.length : Int) := by omega
      have HN2 : Hid (Lx.slC us bs = if us.length < bs.length then -1 else 0) := Lib.hid (HEQ.out.trans (Lx.slC_short (by omega) hk2))
      by_cases h1 : (us.length : Int) < (bs.length : Int)
      · have HN3 : Hid (Lx.slC us bs = -1) := Lib.hid (by rw [HN2.out, if_pos (by omega)])
        go_wp2_with fail
        go_ret
        exact ⟨ret_int HN3.out.symm, rfl⟩
      · have HN3 : Hid (Lx.slC us bs = 0) := Lib.hid (by rw [HN2.out, if_neg (by omega)])
        go_wp2_with fail
        go_ret
        exact ⟨ret_int HN3.out.symm, rfl⟩
end Go.Proofs.YtpmnpnlfgfleeaaGreatDoor
namespace Go.Proofs.YtpmnpnlfgfleeaaGreatDoor
open Go Go.RowKit
theorem wp_region_inv2T {P : Program} {id : Nat} {l : List Oper} {t : Array Value} {df : List Deferred} {w : World} {Q : Exit → Act → World → Prop} (I : Array Value → Array Bool → Act → World → Prop) (hm : P.follows .mixedOrders = true) (ht : tidyOps2 .any l.toArray = true)
    (h0 : I t (Array.replicate l.length false) ⟨t, df⟩ w.drew)
    (hstep : ∀ t0 d a w i, d.size = l.length → I t0 d a w → i ∈ Region.ready .any l.toArray d → wpOp P l.toArray Q i (I t0 (d.setIfInBounds i true)) a w)
    (hend : ∀ d a w, d.size = l.length → I t d a w → (∀ i, i < l.length → d.getD i true = true) → Q .normal a w) :
    (Code.region id l.toArray true).wp P Q ⟨t, df⟩ w := wp_region_inv2 (I t) hm ht h0 (hstep t) hend
end Go.Proofs.YtpmnpnlfgfleeaaGreatDoor
namespace Go.Proofs.YtpmnpnlfgfleeaaGreatDoor
open Go Go.RowKit
theorem rs {t : Array Value} {k m : Nat} {u v : Value} (h : t[k]? = some v) (f : k ≠ m := by decide) : (t.setIfInBounds m u)[k]? = some v := (set_other f).trans h
theorem rp {d : Array Bool} {i j : Nat} {t : Array Value} {k m : Nat} {u v : Value} (hi : i < d.size) (h : dn d j → t[k]? = some v) (e : j ≠ i := by decide) (f : k ≠ m := by decide) : dn (d.setIfInBounds i true) j → (t.setIfInBounds m u)[k]? = some v :=
  fun hj => (set_other f).trans (h (dn_of hi hj e))
theorem rn {d : Array Bool} {i j : Nat} {P : Prop} (hi : i < d.size) (h : dn d j → P) (e : j ≠ i := by decide) : dn (d.setIfInBounds i true) j → P := fun hj => h (dn_of hi hj e)
theorem rc {d : Array Bool} {i j : Nat} {t : Array Value} {k m : Nat} {u : Value} {R R' : Value → Prop} (hi : i < d.size) (h : dn d j → ∃ v, t[k]? = some v ∧ R v) (g : ∀ v, R v → R' v) (e : j ≠ i := by decide) (f : k ≠ m := by decide) :
    dn (d.setIfInBounds i true) j → ∃ v, (t.setIfInBounds m u)[k]? = some v ∧ R' v := fun hj => by
  obtain ⟨v, h1, h2⟩ := h (dn_of hi hj e)
  exact ⟨v, (set_other f).trans h1, g v h2⟩
theorem rcn {d : Array Bool} {i j : Nat} {t : Array Value} {k : Nat} {R R' : Value → Prop} (hi : i < d.size) (h : dn d j → ∃ v, t[k]? = some v ∧ R v) (g : ∀ v, R v → R' v) (e : j ≠ i := by decide) :
    dn (d.setIfInBounds i true) j → ∃ v, t[k]? = some v ∧ R' v := fun hj => by
  obtain ⟨v, h1, h2⟩ := h (dn_of hi hj e)
  exact ⟨v, h1, g v h2⟩
theorem rk {t T0 : Array Value} {l : List Nat} {m : Nat} {u : Value} (h : ∀ i, i ∉ l → t[i]? = T0[i]?) (hm : m ∈ l := by decide) : ∀ i, i ∉ l → (t.setIfInBounds m u)[i]? = T0[i]? :=
  fun i hi => (set_other (fun e => hi (by rw [e]; exact hm))).trans (h i hi)
/-- these slots hold these values -/
def Held (t : Array Value) : List (Nat × Value) → Prop
  | [] => True
  | p :: r => t[p.1]? = some p.2 ∧ Held t r
theorem held_set : ∀ (l : List (Nat × Value)) (t A : Array Value), A.size = t.size → (∀ i, i ∉ l.map (·.1) → A[i]? = t[i]?) → Held t l → l.foldl (fun a p => a.setIfInBounds p.1 p.2) A = t
  | [], t, A, _, hk, _ => by
    refine Array.ext_getElem? fun i => ?_
    exact hk i (by simp)
  | p :: r, t, A, hs, hk, hw => by
    rw [List.foldl_cons]
    refine held_set r t _ (by simpa using hs) (fun i hi => ?_) hw.2
    by_cases e : i = p.1
    · subst e
      have hlt := (Array.getElem?_eq_some_iff.1 hw.1).1
      rw [set_same (by omega), hw.1]
    · rw [set_other e]
      exact hk i (by simp only [List.map_cons, List.mem_cons, not_or]; exact ⟨e, hi⟩)
/-- the frame behind a region -/
theorem frame_eq {t T0 : Array Value} {wl : List Nat} (l : List (Nat × Value)) (hs : t.size = T0.size) (hk : ∀ i, i ∉ wl → t[i]? = T0[i]?) (hm : wl.all (fun i => l.any fun p => p.1 == i) = true) (hw : Held t l) : t = l.foldl (fun a p => a.setIfInBounds p.1 p.2) T0 := by
  refine (held_set l t T0 hs.symm (fun i hi => (hk i (fun h => hi ?_)).symm) hw).symm
  have := List.all_eq_true.1 hm i h
  rw [List.any_eq_true] at this
  obtain ⟨p, hp, e⟩ := this
  have e' : p.1 = i := by simpa using e
  rw [← e']
  exact List.mem_map_of_mem hp
end Go.Proofs.YtpmnpnlfgfleeaaGreatDoor
