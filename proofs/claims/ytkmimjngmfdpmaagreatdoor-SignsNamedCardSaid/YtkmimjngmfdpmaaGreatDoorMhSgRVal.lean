/- ostraconref01.Loose, two. ostraconref01.value. Made by gen_rval.py. -/
import Derived.Test.YtkmimjngmfdpmaaGreatDoorMgSgParse
import Derived.Test.YtkmimjngmfdpmaaGreatDoorMgTrimPlain
import Derived.Test.YtkmimjngmfdpmaaGreatDoorMgShelfP
import Derived.Test.YtkmimjngmfdpmaaGreatDoorMgSgSame
namespace Go.Proofs.YtkmimjngmfdpmaaGreatDoor
open Go Go.RowKit

def Sg.looseC (b : UInt8) : Bool := !decide (b = 32) && !decide (b = 64) && !decide (b = 58)
theorem Sg.looseB_eq (t : List UInt8) : Sg.looseB t = (!decide (t = []) && t.all Sg.looseC) := rfl
theorem Sg.looseC_yes {b : UInt8} (h : Sg.looseC b = true) : ((b.toNat : Int) == 32) = false ∧ ((b.toNat : Int) == 64) = false ∧ ((b.toNat : Int) == 58) = false := by
  unfold Sg.looseC at h
  simp only [Bool.and_eq_true, Bool.not_eq_true', decide_eq_false_iff_not] at h
  obtain ⟨⟨h1, h2⟩, h3⟩ := h
  refine ⟨?_, ?_, ?_⟩
  · rw [beq_eq_false_iff_ne]; intro e; exact h1 (UInt8.toNat_inj.1 (by have : (32 : UInt8).toNat = 32 := rfl; omega))
  · rw [beq_eq_false_iff_ne]; intro e; exact h2 (UInt8.toNat_inj.1 (by have : (64 : UInt8).toNat = 64 := rfl; omega))
  · rw [beq_eq_false_iff_ne]; intro e; exact h3 (UInt8.toNat_inj.1 (by have : (58 : UInt8).toNat = 58 := rfl; omega))
theorem Sg.looseC_no {b : UInt8} (h : Sg.looseC b = false) : b = 32 ∨ b = 64 ∨ b = 58 := by
  unfold Sg.looseC at h
  by_cases h1 : b = 32
  · exact .inl h1
  by_cases h2 : b = 64
  · exact .inr (.inl h2)
  by_cases h3 : b = 58
  · exact .inr (.inr h3)
  simp [h1, h2, h3] at h
set_option maxRecDepth 100000 in
set_option maxHeartbeats 4000000 in
theorem r1Loose_any (t : ByteArray) (w : World) (ht : t.size ≤ 1000000) : Calls Tryz.prog 98 #[.string t] w (fun e w' => e = .returned (.bool (Sg.looseB t.data.toList)) ∧ w' = w) := by
  have hlen : t.data.toList.length = t.size := rfl
  go_enter Tryz.func98, Tryz.ntmps98
  go_wp2_with fail
  go_loopg [3] t.size (fun g i wr => ∃ k : Nat, k ≤ t.size ∧ g = t.size - k ∧ i = .int .i64 k ∧ wr = w ∧ (t.data.toList.take k).all Sg.looseC = true)
  case atStart => exact ⟨0, Nat.zero_le _, rfl, rfl, rfl, rfl⟩
  case round =>
    obtain ⟨k, hk, rfl, rfl, rfl, hal⟩ := hrel
    have HAL := Lib.hid hal
    clear hal
    by_cases hlt : k < t.size
    · cases hc : Sg.looseC t[k]
      · have HF : Hid (Sg.looseB t.data.toList = false) := Lib.hid (by rw [Sg.looseB_eq, not_all_of Sg.looseC t k hlt hc, Bool.and_false])
        rcases Sg.looseC_no hc with h | h | h
        all_goals
          clear hc
          go_wp2_with fail
          go_ret
          rw [HF.out]
          exact ⟨rfl, rfl⟩
      · have HNX : Hid ((t.data.toList.take (k + 1)).all Sg.looseC = true) := Lib.hid (by rw [take_succ_all Sg.looseC t k hlt, HAL.out, hc]; rfl)
        obtain ⟨b1, b2, b3⟩ := Sg.looseC_yes hc
        clear hc
        go_wp2_with fail
        go_roundg (t.size - (k + 1))
        case measure => omega
        case rel => exact ⟨k + 1, by omega, rfl, by go_num, rfl, HNX.out⟩
    · have HA : Hid (t.data.toList.all Sg.looseC = true) := Lib.hid (by
        have := HAL.out
        rwa [List.take_of_length_le (by rw [hlen]; omega)] at this)
      by_cases h0 : t.data.toList = []
      · have HF : Hid (Sg.looseB t.data.toList = false) := Lib.hid (by rw [Sg.looseB_eq, h0]; rfl)
        have e1 : t.toList.isEmpty = true := by rw [Lx.toList_data, h0]; rfl
        clear h0
        go_wp2_with fail
        go_ret
        rw [HF.out]
        exact ⟨rfl, rfl⟩
      · have HF : Hid (Sg.looseB t.data.toList = true) := Lib.hid (by rw [Sg.looseB_eq, HA.out]; simp [h0])
        have e1 := empty_not h0
        clear h0
        go_wp2_with fail
        go_ret
        rw [HF.out]
        exact ⟨rfl, rfl⟩
/-- what the reference makes of two numbers -/
def Sg.twoR (t : List UInt8) (c : UInt8) : Int × Int × Bool := match Lib.split t [c] with
  | [a, b] => (Lx.numV a 3, Lx.numV b 3, Lx.numB a 3 && Lx.numB b 3)
  | _ => (0, 0, false)
theorem Sg.twoR_eq (t : List UInt8) (c : UInt8) : (Sg.twoR t c).2.2 = (Sg.twoV t c).isSome ∧ ∀ q, Sg.twoV t c = some q → q = ((Sg.twoR t c).1, (Sg.twoR t c).2.1) := by
  unfold Sg.twoR Sg.twoV
  generalize Lib.split t [c] = sp
  rcases sp with _ | ⟨a, _ | ⟨b, _ | ⟨d, r⟩⟩⟩
  · exact ⟨rfl, fun q h => by cases h⟩
  · exact ⟨rfl, fun q h => by cases h⟩
  · dsimp only
    by_cases h : Lx.numB a 3 = true ∧ Lx.numB b 3 = true
    · rw [if_pos h, h.1, h.2]
      exact ⟨rfl, fun q hq => by cases hq; rfl⟩
    · rw [if_neg h]
      refine ⟨?_, fun q hq => by cases hq⟩
      cases ha : Lx.numB a 3 <;> cases hb : Lx.numB b 3 <;> simp_all
  · exact ⟨rfl, fun q h => by cases h⟩
theorem Sg.twoR_not {t : List UInt8} {c : UInt8} (h : (Lib.split t [c]).length ≠ 2) : Sg.twoR t c = (0, 0, false) := by
  unfold Sg.twoR
  split
  · rename_i a b h2
    rw [h2] at h
    exact absurd rfl h
  · rfl
theorem Sg.twoR_two {t a b : List UInt8} {c : UInt8} (h : Lib.split t [c] = [a, b]) : Sg.twoR t c = (Lx.numV a 3, Lx.numV b 3, Lx.numB a 3 && Lx.numB b 3) := by
  unfold Sg.twoR
  rw [h]
theorem words_ex {w : World} {B n c : Nat} {A : Option Addr} {xs : List ByteArray} (h : RdS w B 1 encStr (.slice A n c) xs) (h0 : 0 < xs.length) :
    ∃ b off, A = some ⟨b, off, none⟩ ∧ b < B ∧ ∀ k x, xs[k]? = some x → w.cell? ⟨b, off + k, none⟩ = some (.string x) := by
  obtain ⟨A', c', e, _, _, h⟩ := h
  obtain ⟨b, off, e', hb, hc⟩ := h h0
  injection e with e1 e2 e3
  refine ⟨b, off, e1.trans e', hb, fun k x hk => ?_⟩
  have := hc k x hk 0 _ rfl
  simpa using this
set_option maxRecDepth 100000 in
set_option maxHeartbeats 4000000 in
theorem r1two_any (t : ByteArray) (c : UInt8) (w : World) (ht : t.size ≤ 1000000) : Calls Tryz.prog 99 #[.string t, .int .u8 (c.toNat : Int)] w (RetTwo (Sg.twoR t.data.toList c) w) := by
  have HSP := Lib.hid (r1Split_any t c w ht)
  go_enter Tryz.func99, Tryz.ntmps99
  go_wp2_with fail
  refine HSP.out.mono ?_
  rintro e w1 ⟨v, l, rfl, hown, hq, hb⟩
  have hln : l.length = (Lib.split t.data.toList [c]).length := by rw [← hq, List.length_map]
  have HRD := Lib.hid (rds_of_own len_str hown)
  obtain ⟨A, cp, rfl⟩ := own_form hown
  have HB := Lib.hid hb
  have HQ := Lib.hid hq
  clear hown hb hq
  by_cases h2 : l.length = 2
  case neg =>
    have HT := Lib.hid (Sg.twoR_not (t := t.data.toList) (c := c) (by omega))
    have i1 : ((l.length : Int) == 2) = false := by rw [beq_eq_false_iff_ne]; omega
    clear hln h2
    go_wp2_with fail
    go_ret3
    exact RetTwo.of HT.out HB.out
  obtain ⟨x, y, rfl⟩ : ∃ x y, l = [x, y] := by
    match l, h2 with
    | [x, y], _ => exact ⟨x, y, rfl⟩
  obtain ⟨b, off, rfl, hb, hcell⟩ := words_ex HRD.out (by simp)
  have f0 : w1.cell? ⟨b, off, none⟩ = some (.string x) := by simpa using hcell 0 x rfl
  have f1 : w1.cell? ⟨b, off + 1, none⟩ = some (.string y) := hcell 1 y rfl
  have HT := Lib.hid (Sg.twoR_two (HQ.out.symm : Lib.split t.data.toList [c] = [x.data.toList, y.data.toList]))
  have hxs : x.size ≤ 1000000 := by
    have h1 : x.data.toList ∈ Lib.split t.data.toList [c] := by rw [← HQ.out]; simp
    have h3 := Sg.split_leG h1
    have e1 : x.data.toList.length = x.size := rfl
    have e2 : t.data.toList.length = t.size := rfl
    omega
  have hys : y.size ≤ 1000000 := by
    have h1 : y.data.toList ∈ Lib.split t.data.toList [c] := by rw [← HQ.out]; simp
    have h3 := Sg.split_leG h1
    have e1 : y.data.toList.length = y.size := rfl
    have e2 : t.data.toList.length = t.size := rfl
    omega
  have HN1 := Lib.hid (r1Number_any x 3 w1 hxs (by decide) (by decide))
  have HN2 := Lib.hid (r1Number_any y 3 w1 hys (by decide) (by decide))
  obtain ⟨n1, hn1⟩ : ∃ n, n = Lx.numV x.data.toList 3 := ⟨_, rfl⟩
  obtain ⟨n2, hn2⟩ : ∃ n, n = Lx.numV y.data.toList 3 := ⟨_, rfl⟩
  obtain ⟨p1, hp1⟩ : ∃ n, n = Lx.numB x.data.toList 3 := ⟨_, rfl⟩
  obtain ⟨p2, hp2⟩ : ∃ n, n = Lx.numB y.data.toList 3 := ⟨_, rfl⟩
  rw [← hn1, ← hp1] at HN1
  rw [← hn2, ← hp2] at HN2
  rw [← hn1, ← hn2, ← hp1, ← hp2] at HT
  clear hcell hln h2 hxs hys hn1 hn2 hp1 hp2
  go_wp2_with fail
  refine HN1.out.mono ?_
  rintro e w2 ⟨rfl, rfl⟩
  go_wp2_with fail
  refine HN2.out.mono ?_
  rintro e w3 ⟨rfl, rfl⟩
  cases p1 <;> cases p2 <;> (
    go_wp2_with fail
    go_ret3
    exact RetTwo.of HT.out HB.out)
end Go.Proofs.YtkmimjngmfdpmaaGreatDoor
namespace Go.Proofs.YtkmimjngmfdpmaaGreatDoor
open Go Go.RowKit

def RetValR (q : Option Sg.VV) (w : World) (e : Ending) (w' : World) : Prop := ∃ (k : Int) (tx : ByteArray) (a b : Int), e = .returned (.tuple #[.agg #[.int .i64 k, .string tx, .int .i64 a, .int .i64 b], .bool q.isSome]) ∧ (∀ z, q = some z → z.value = ⟨k, tx, a, b⟩) ∧ Below w.heap.size w w'
theorem RetValR.no {q : Option Sg.VV} {w w' : World} {k a b : Int} {tx : ByteArray} (hq : q = none) (hb : Below w.heap.size w w') : RetValR q w (.returned (.tuple #[.agg #[.int .i64 k, .string tx, .int .i64 a, .int .i64 b], .bool false])) w' := by
  subst hq
  exact ⟨k, tx, a, b, rfl, fun z h => (nomatch h), hb⟩
theorem RetValR.yes {q : Option Sg.VV} {z : Sg.VV} {w w' : World} {k a b : Int} {tx : ByteArray} (hq : q = some z) (hz : z.value = ⟨k, tx, a, b⟩) (hb : Below w.heap.size w w') : RetValR q w (.returned (.tuple #[.agg #[.int .i64 k, .string tx, .int .i64 a, .int .i64 b], .bool true])) w' := by
  subst hq
  exact ⟨k, tx, a, b, rfl, fun z' h => by cases h; exact hz, hb⟩
theorem at_world {f : FuncId} {args : Array Value} {W : World} {Q : Ending → World → Prop} (h : ∀ WL, WL = W → Calls Tryz.prog f args WL Q) : Calls Tryz.prog f args W Q := h W rfl
theorem Sg.valV_not {t : List UInt8} (h : (Lib.split t [64]).length ≠ 2) : Sg.valV t = none := by
  unfold Sg.valV
  generalize Lib.split t [64] = s at h
  rcases s with _ | ⟨a, _ | ⟨b, _ | ⟨d, r⟩⟩⟩
  · rfl
  · rfl
  · exact absurd rfl h
  · rfl
theorem Sg.valV_notm {t x y : List UInt8} (h : Lib.split t [64] = [x, y]) (h2 : (Lib.split x [58]).length ≠ 2) : Sg.valV t = none := by
  unfold Sg.valV
  rw [h]
  dsimp only
  generalize Lib.split x [58] = s at h2
  rcases s with _ | ⟨a, _ | ⟨b, _ | ⟨d, r⟩⟩⟩
  · rfl
  · rcases a with _ | ⟨a0, _ | ⟨a1, a2⟩⟩ <;> rfl
  · exact absurd rfl h2
  · rcases a with _ | ⟨a0, _ | ⟨a1, a2⟩⟩ <;> rfl
def Sg.valK (k0 tx y : List UInt8) : Option Sg.VV := match k0 with
    | [k] => if Sg.looseB tx = true ∧ Sg.kindOf k ≠ 0 then (match Sg.twoV y 45 with
      | some (a, b) => some ⟨Sg.kindOf k, tx, a, b⟩
      | none => none) else none
    | _ => none
theorem Sg.valK_not {k0 tx y : List UInt8} (h : k0.length ≠ 1) : Sg.valK k0 tx y = none := by
  rcases k0 with _ | ⟨a0, _ | ⟨a1, a2⟩⟩
  · rfl
  · exact absurd rfl h
  · rfl
theorem Sg.valV_m {t x y k0 tx : List UInt8} (h : Lib.split t [64] = [x, y]) (h2 : Lib.split x [58] = [k0, tx]) : Sg.valV t = Sg.valK k0 tx y := by
  unfold Sg.valV Sg.valK
  rw [h]
  dsimp only
  rw [h2]
  rcases k0 with _ | ⟨a0, _ | ⟨a1, a2⟩⟩ <;> rfl
theorem ba_one {b : ByteArray} (h : b.size = 1) : ∃ k, b.data.toList = [k] ∧ b = ⟨#[k]⟩ := by
  have h1 : b.data.toList.length = 1 := h
  match e : b.data.toList, h1 with
  | [k], _ => exact ⟨k, rfl, Lx.bytes_eq (by rw [e])⟩
set_option maxRecDepth 100000 in
set_option maxHeartbeats 8000000 in
theorem r1value_any (t : ByteArray) (w : World) (ht : t.size ≤ 1000000) : Calls Tryz.prog 100 #[.string t] w (RetValR (Sg.valV t.data.toList) w) := by
  have HSP := Lib.hid fun (W : World) => r1Split_any t 64 W ht
  have htl : t.data.toList.length = t.size := rfl
  have HB0 : Hid (Below w.heap.size w (w.alloc (.cells #[.int .i64 0, .string ⟨#[]⟩, .int .i64 0, .int .i64 0] 60))) := Lib.hid ((Below.refl _ _).alloc (Nat.le_refl _) _)
  go_enter Tryz.func100, Tryz.ntmps100
  go_wp2_with fail
  refine (HSP.out _).mono ?_
  rintro e w1 ⟨v, l, rfl, hown, hq, hb⟩
  have hln : l.length = (Lib.split t.data.toList [64]).length := by rw [← hq, List.length_map]
  have HRD := Lib.hid (rds_of_own len_str hown)
  obtain ⟨A, cp, rfl⟩ := own_form hown
  have HB1 := Lib.hid (HB0.out.trans (hb.mono HB0.out.size))
  have hv1 : w1.heap[w.heap.size]? = some (.cells #[.int .i64 0, .string ⟨#[]⟩, .int .i64 0, .int .i64 0] 60 (0, 0)) := (hb.block _ (by simp)).trans (heap_alloc_new _ _)
  have HV1 := Lib.hid hv1
  have hs1 : w.heap.size < w1.heap.size := (Array.getElem?_eq_some_iff.1 hv1).1
  have HQ := Lib.hid hq
  clear hown hb hq
  by_cases h2 : l.length = 2
  case neg =>
    have HN := Lib.hid (Sg.valV_not (t := t.data.toList) (by omega))
    have i1 : ((l.length : Int) == 2) = false := by rw [beq_eq_false_iff_ne]; omega
    have c0 : w1.cell? ⟨w.heap.size, 0, none⟩ = some (.int .i64 0) := by simp [World.cell?, hv1]
    have c1 : w1.cell? ⟨w.heap.size, 1, none⟩ = some (.string ⟨#[]⟩) := by simp [World.cell?, hv1]
    have c2 : w1.cell? ⟨w.heap.size, 2, none⟩ = some (.int .i64 0) := by simp [World.cell?, hv1]
    have c3 : w1.cell? ⟨w.heap.size, 3, none⟩ = some (.int .i64 0) := by simp [World.cell?, hv1]
    have z0 : w1.frozen? ⟨w.heap.size, 0, none⟩ = false := by simp [World.frozen?, hv1]
    have z1 : w1.frozen? ⟨w.heap.size, 1, none⟩ = false := by simp [World.frozen?, hv1]
    have z2 : w1.frozen? ⟨w.heap.size, 2, none⟩ = false := by simp [World.frozen?, hv1]
    have z3 : w1.frozen? ⟨w.heap.size, 3, none⟩ = false := by simp [World.frozen?, hv1]
    clear hln h2 hv1
    go_wp2_with fail
    refine bodyPost_ret (v := .tuple #[.agg #[.int .i64 0, .string ⟨#[]⟩, .int .i64 0, .int .i64 0], .bool false]) (by simp [results, Tryz.results100, go_sem, c0, c1, c2, c3]) rfl ?_
    exact RetValR.no HN.out ((((HB1.out.setCell (Nat.le_refl _) _).setCell (Nat.le_refl _) _).setCell (Nat.le_refl _) _).setCell (Nat.le_refl _) _)
  obtain ⟨x, y, rfl⟩ : ∃ x y, l = [x, y] := by
    match l, h2 with
    | [x, y], _ => exact ⟨x, y, rfl⟩
  obtain ⟨b, off, rfl, hb, hcell⟩ := words_ex HRD.out (by simp)
  have f0 : w1.cell? ⟨b, off, none⟩ = some (.string x) := by simpa using hcell 0 x rfl
  have hf1 : w1.cell? ⟨b, off + 1, none⟩ = some (.string y) := hcell 1 y rfl
  have HSPL : Hid (Lib.split t.data.toList [64] = [x.data.toList, y.data.toList]) := Lib.hid HQ.out.symm
  have hxs : x.size ≤ 1000000 := by
    have h3 := Sg.split_leG (show x.data.toList ∈ Lib.split t.data.toList [64] by rw [HSPL.out]; simp)
    have e1 : x.data.toList.length = x.size := rfl
    omega
  have hys : y.size ≤ 1000000 := by
    have h3 := Sg.split_leG (show y.data.toList ∈ Lib.split t.data.toList [64] by rw [HSPL.out]; simp)
    have e1 : y.data.toList.length = y.size := rfl
    omega
  have HSP2 := Lib.hid (r1Split_any x 58 w1 hxs)
  have HTW := Lib.hid fun W => r1two_any y 45 W hys
  have HF1 := Lib.hid hf1
  have hbl : b < w1.heap.size := hb
  clear hcell hln h2 hv1 HQ hf1 hys
  go_wp2_with fail
  refine HSP2.out.mono ?_
  rintro e w2 ⟨v', m, rfl, hown, hq, hb2⟩
  have hmn : m.length = (Lib.split x.data.toList [58]).length := by rw [← hq, List.length_map]
  have HRM := Lib.hid (rds_of_own len_str hown)
  obtain ⟨A', cp', rfl⟩ := own_form hown
  have HB2 := Lib.hid (HB1.out.trans (hb2.mono HB1.out.size))
  have hv2 := (hb2.block _ hs1).trans HV1.out
  have HV2 := Lib.hid hv2
  have HY := Lib.hid ((hb2.cell (p := ⟨b, off + 1, none⟩) hbl).trans HF1.out)
  have hs2 := hb2.size
  have HQ := Lib.hid hq
  clear hown hb2 hq f0
  have c0 : w2.cell? ⟨w.heap.size, 0, none⟩ = some (.int .i64 0) := by simp [World.cell?, hv2]
  have c1 : w2.cell? ⟨w.heap.size, 1, none⟩ = some (.string ⟨#[]⟩) := by simp [World.cell?, hv2]
  have c2 : w2.cell? ⟨w.heap.size, 2, none⟩ = some (.int .i64 0) := by simp [World.cell?, hv2]
  have c3 : w2.cell? ⟨w.heap.size, 3, none⟩ = some (.int .i64 0) := by simp [World.cell?, hv2]
  have z0 : w2.frozen? ⟨w.heap.size, 0, none⟩ = false := by simp [World.frozen?, hv2]
  have z1 : w2.frozen? ⟨w.heap.size, 1, none⟩ = false := by simp [World.frozen?, hv2]
  have z2 : w2.frozen? ⟨w.heap.size, 2, none⟩ = false := by simp [World.frozen?, hv2]
  have z3 : w2.frozen? ⟨w.heap.size, 3, none⟩ = false := by simp [World.frozen?, hv2]
  by_cases h2 : m.length = 2
  case neg =>
    have HN := Lib.hid (Sg.valV_notm HSPL.out (by omega))
    have i1 : ((m.length : Int) == 2) = false := by rw [beq_eq_false_iff_ne]; omega
    have i2 : ¬ (m.length : Int) = 2 := by omega
    clear hmn h2 hv2
    go_wp2_with fail
    refine bodyPost_ret (v := .tuple #[.agg #[.int .i64 0, .string ⟨#[]⟩, .int .i64 0, .int .i64 0], .bool false]) (by simp [results, Tryz.results100, go_sem, c0, c1, c2, c3]) rfl ?_
    exact RetValR.no HN.out ((((HB2.out.setCell (Nat.le_refl _) _).setCell (Nat.le_refl _) _).setCell (Nat.le_refl _) _).setCell (Nat.le_refl _) _)
  obtain ⟨K, X, rfl⟩ : ∃ x y, m = [x, y] := by
    match m, h2 with
    | [x, y], _ => exact ⟨x, y, rfl⟩
  obtain ⟨b2, off2, rfl, hbm, hcell⟩ := words_ex HRM.out (by simp)
  have f0 : w2.cell? ⟨b2, off2, none⟩ = some (.string K) := by simpa using hcell 0 K rfl
  have f1 : w2.cell? ⟨b2, off2 + 1, none⟩ = some (.string X) := hcell 1 X rfl
  have HVM : Hid (Sg.valV t.data.toList = Sg.valK K.data.toList X.data.toList y.data.toList) := Lib.hid (Sg.valV_m HSPL.out HQ.out.symm)
  have hXs : X.size ≤ 1000000 := by
    have h3 := Sg.split_leG (show X.data.toList ∈ Lib.split x.data.toList [58] by rw [← HQ.out]; simp)
    have e1 : X.data.toList.length = X.size := rfl
    have e2 : x.data.toList.length = x.size := rfl
    omega
  have HLS := Lib.hid fun W => r1Loose_any X W hXs
  obtain ⟨lo, hlo⟩ : ∃ lo, lo = Sg.looseB X.data.toList := ⟨_, rfl⟩
  rw [← hlo] at HLS
  have HLO := Lib.hid hlo
  clear hcell hmn h2 hxs hXs HQ HSPL hlo
  by_cases hk : K.size = 1
  case neg =>
    have HN : Hid (Sg.valV t.data.toList = none) := Lib.hid (by
      rw [HVM.out]
      exact Sg.valK_not hk)
    have i1 : ((K.size : Int) == 1) = false := by rw [beq_eq_false_iff_ne]; omega
    have i2 : ¬ (K.size : Int) = 1 := by omega
    clear hk hv2
    go_wp2_with fail
    refine bodyPost_ret (v := .tuple #[.agg #[.int .i64 0, .string ⟨#[]⟩, .int .i64 0, .int .i64 0], .bool false]) (by simp [results, Tryz.results100, go_sem, c0, c1, c2, c3]) rfl ?_
    exact RetValR.no HN.out ((((HB2.out.setCell (Nat.le_refl _) _).setCell (Nat.le_refl _) _).setCell (Nat.le_refl _) _).setCell (Nat.le_refl _) _)
  obtain ⟨kb, hk1, hk2⟩ := ba_one hk
  rw [hk1] at HVM
  unfold Sg.valK at HVM
  dsimp only at HVM
  rw [← HLO.out] at HVM
  cases lo
  · have HN : Hid (Sg.valV t.data.toList = none) := Lib.hid (by rw [HVM.out, if_neg (by simp)])
    clear hk hk1 hv2
    subst hk2
    go_wp2_with fail
    refine (HLS.out _).mono ?_
    rintro e w3 ⟨rfl, rfl⟩
    go_wp2_with fail
    refine bodyPost_ret (v := .tuple #[.agg #[.int .i64 0, .string ⟨#[]⟩, .int .i64 0, .int .i64 0], .bool false]) (by simp [results, Tryz.results100, go_sem, c0, c1, c2, c3]) rfl ?_
    exact RetValR.no HN.out ((((HB2.out.setCell (Nat.le_refl _) _).setCell (Nat.le_refl _) _).setCell (Nat.le_refl _) _).setCell (Nat.le_refl _) _)
  have HR : Hid (Sg.valV t.data.toList = if Sg.kindOf kb ≠ 0 then (match Sg.twoV y.data.toList 45 with
      | some (a, b) => some ⟨Sg.kindOf kb, X.data.toList, a, b⟩
      | none => none) else none) := Lib.hid (by rw [HVM.out]; simp)
  clear hk hk1 HVM HLO
  subst hk2
  have hcs := Sg.kindOf_cases kb
  obtain ⟨ts, hts⟩ : ∃ ts, ts = Sg.twoV y.data.toList 45 := ⟨_, rfl⟩
  obtain ⟨⟨a1, b1, is⟩, hq⟩ : ∃ q, q = Sg.twoR y.data.toList 45 := ⟨_, rfl⟩
  have htw := Sg.twoR_eq y.data.toList 45
  rw [← hq, ← hts] at htw
  rw [← hts] at HR
  have HTE := Lib.hid htw
  rw [← hq] at HTW
  obtain ⟨wS, hwS⟩ : ∃ wS, wS = w2.alloc (.cells #[.int .i64 0, .string X, .int .i64 0, .int .i64 0] 60) := ⟨_, rfl⟩
  have hbS : Below w2.heap.size w2 wS := by rw [hwS]; exact (Below.refl _ _).alloc (Nat.le_refl _) _
  have hvS : wS.heap[w2.heap.size]? = some (.cells #[.int .i64 0, .string X, .int .i64 0, .int .i64 0] 60 (0, 0)) := by rw [hwS]; exact heap_alloc_new _ _
  have HVS := Lib.hid hvS
  have hsS : w2.heap.size < wS.heap.size := by rw [hwS]; simp
  have HBS := Lib.hid (HB2.out.trans (hbS.mono HB2.out.size))
  have HYS := Lib.hid ((hbS.cell (p := ⟨b, off + 1, none⟩) (show b < w2.heap.size by omega)).trans HY.out)
  have HKS := Lib.hid ((hbS.cell (p := ⟨b2, off2, none⟩) (show b2 < w2.heap.size from hbm)).trans f0)
  have HVR := Lib.hid ((hbS.block w.heap.size (by omega)).trans HV2.out)
  have HWS := Lib.hid hwS
  have hbm' : b2 < w2.heap.size := hbm
  have hbl2 : b < w2.heap.size := by omega
  have hsw : w.heap.size < w2.heap.size := by omega
  clear hts hq htw hwS hbS hvS hv2 hb hbm
  go_wp2_with fail
  refine (HLS.out _).mono ?_
  rintro e w3 ⟨rfl, rfl⟩
  go_upto_region 8 with fail
  rw [← HWS.out]
  clear c0 c1 c2 c3 z0 z1 z2 z3 f0 f1
  have k0 := HKS.out
  have yS := HYS.out
  have kv : wS.cell? ⟨w3.heap.size, 0, none⟩ = some (.int .i64 0) := by simp [World.cell?, HVS.out]
  have v0 : wS.frozen? ⟨w3.heap.size, 0, none⟩ = false := by simp [World.frozen?, HVS.out]
  rcases hcs with ⟨h1, hkd⟩ | ⟨h1, h2, hkd⟩ | ⟨h1, h2, h3, hkd⟩ | ⟨h1, h2, h3, hkd⟩
  · have d0 : ((((({ data := #[32, 115, 119, 99] } : ByteArray)[1]'(by decide)).toNat : Nat) : Int) == (((({ data := #[kb] } : ByteArray)[0]'(by show 0 < 1; decide)).toNat : Nat) : Int)) = true := by show ((115 : Int) == (kb.toNat : Int)) = true; rw [h1]; rfl
    have d1 : ((((({ data := #[32, 115, 119, 99] } : ByteArray)[2]'(by decide)).toNat : Nat) : Int) == (((({ data := #[kb] } : ByteArray)[0]'(by show 0 < 1; decide)).toNat : Nat) : Int)) = false := by show ((119 : Int) == (kb.toNat : Int)) = false; rw [h1]; rfl
    have d2 : ((((({ data := #[32, 115, 119, 99] } : ByteArray)[3]'(by decide)).toNat : Nat) : Int) == (((({ data := #[kb] } : ByteArray)[0]'(by show 0 < 1; decide)).toNat : Nat) : Int)) = false := by show ((99 : Int) == (kb.toNat : Int)) = false; rw [h1]; rfl
    have HKD : Hid (Sg.kindOf kb = 1) := Lib.hid hkd
    clear hkd h1
    go_wp2_with fail
    refine wp_loop_rounds 4 ?_
    rw [rounds_succ]
    go_wp2_with fail
    go_quiet (fail)
    go_wp2_with fail
    rw [rounds_succ]
    go_wp2_with fail
    go_quiet (fail)
    go_wp2_with fail
    rw [rounds_succ]
    go_wp2_with fail
    go_quiet (fail)
    go_wp2_with fail
    rw [rounds_succ]
    go_wp2_with fail
    refine at_world ?_
    intro WL hWL
    have hvL : WL.heap[w3.heap.size]? = some (.cells #[.int .i64 1, .string X, .int .i64 0, .int .i64 0] 60 (0, 0)) := by rw [hWL]; exact gset (i := 0) HVS.out _
    have hBL : Below w3.heap.size wS WL := by rw [hWL]; first | exact below_drewN (Below.refl _ _) _ | exact below_drewN ((below_drewN (Below.refl _ _) _).setCell (p := ⟨w3.heap.size, 0, none⟩) (Nat.le_refl _) _) _ | exact (below_drewN (Below.refl _ _) _).setCell (p := ⟨w3.heap.size, 0, none⟩) (Nat.le_refl _) _
    refine (HTW.out _).mono ?_
    rintro e w4 ⟨rfl, hb4⟩
    have hsL := hBL.size
    have hs4 := hb4.size
    have hv4 := (hb4.block w3.heap.size (by omega)).trans hvL
    have hr4 := (hb4.block w.heap.size (by omega)).trans ((hBL.block w.heap.size (by omega)).trans HVR.out)
    have HB4 : Hid (Below w.heap.size w w4) := Lib.hid (HBS.out.trans ((hBL.trans (hb4.mono (by omega))).mono (by omega)))
    obtain ⟨w5, hw5⟩ : ∃ w5, w5 = (w4.setCell ⟨w3.heap.size, 2, none⟩ (.int .i64 a1)).setCell ⟨w3.heap.size, 3, none⟩ (.int .i64 b1) := ⟨_, rfl⟩
    have hv5 : w5.heap[w3.heap.size]? = some (.cells #[.int .i64 1, .string X, .int .i64 a1, .int .i64 b1] 60 (0, 0)) := by rw [hw5]; exact gset (i := 3) (gset (i := 2) hv4 _) _
    have hr5 : w5.heap[w.heap.size]? = some (.cells #[.int .i64 0, .string ⟨#[]⟩, .int .i64 0, .int .i64 0] 60 (0, 0)) := by
      rw [hw5, Below.heap_setCell _ ⟨w3.heap.size, 3, none⟩ _ _ (by show w.heap.size ≠ w3.heap.size; omega), Below.heap_setCell _ ⟨w3.heap.size, 2, none⟩ _ _ (by show w.heap.size ≠ w3.heap.size; omega)]
      exact hr4
    have HB5 : Hid (Below w.heap.size w w5) := Lib.hid (by rw [hw5]; exact (HB4.out.setCell (p := ⟨w3.heap.size, 2, none⟩) (show w.heap.size ≤ w3.heap.size by omega) _).setCell (p := ⟨w3.heap.size, 3, none⟩) (show w.heap.size ≤ w3.heap.size by omega) _)
    have HW5 := Lib.hid hw5
    have q2 : w4.cell? ⟨w3.heap.size, 2, none⟩ = some (.int .i64 0) := by simp [World.cell?, hv4]
    have q3 : w4.cell? ⟨w3.heap.size, 3, none⟩ = some (.int .i64 0) := by simp [World.cell?, hv4]
    have p2 : w4.frozen? ⟨w3.heap.size, 2, none⟩ = false := by simp [World.frozen?, hv4]
    have p3 : w4.frozen? ⟨w3.heap.size, 3, none⟩ = false := by simp [World.frozen?, hv4]
    clear hWL hvL hBL hb4 hv4 hr4 hw5 k0 yS v0 kv d0 d1 d2
    go_upto_region 16 with fail
    rw [← HW5.out]
    clear q2 q3 p2 p3
    have e0 : w5.cell? ⟨w3.heap.size, 0, none⟩ = some (.int .i64 1) := by simp [World.cell?, hv5]
    have e1 : w5.cell? ⟨w3.heap.size, 1, none⟩ = some (.string X) := by simp [World.cell?, hv5]
    have e2 : w5.cell? ⟨w3.heap.size, 2, none⟩ = some (.int .i64 a1) := by simp [World.cell?, hv5]
    have e3 : w5.cell? ⟨w3.heap.size, 3, none⟩ = some (.int .i64 b1) := by simp [World.cell?, hv5]
    have c0 : w5.cell? ⟨w.heap.size, 0, none⟩ = some (.int .i64 0) := by simp [World.cell?, hr5]
    have c1 : w5.cell? ⟨w.heap.size, 1, none⟩ = some (.string ⟨#[]⟩) := by simp [World.cell?, hr5]
    have c2 : w5.cell? ⟨w.heap.size, 2, none⟩ = some (.int .i64 0) := by simp [World.cell?, hr5]
    have c3 : w5.cell? ⟨w.heap.size, 3, none⟩ = some (.int .i64 0) := by simp [World.cell?, hr5]
    have z0 : w5.frozen? ⟨w.heap.size, 0, none⟩ = false := by simp [World.frozen?, hr5]
    have z1 : w5.frozen? ⟨w.heap.size, 1, none⟩ = false := by simp [World.frozen?, hr5]
    have z2 : w5.frozen? ⟨w.heap.size, 2, none⟩ = false := by simp [World.frozen?, hr5]
    have z3 : w5.frozen? ⟨w.heap.size, 3, none⟩ = false := by simp [World.frozen?, hr5]
    have hne : w.heap.size ≠ w3.heap.size := by omega
    clear hv5 hr5
    cases is
    · have HN : Hid (Sg.valV t.data.toList = none) := Lib.hid (by
        obtain ⟨h1, h2⟩ := HTE.out
        rcases ts with _ | q
        · rw [HR.out, HKD.out, if_pos (by decide)]
        · cases h1)
      go_region
      all_goals
        go_wp2_with fail
        refine bodyPost_ret (v := .tuple #[.agg #[.int .i64 1, .string X, .int .i64 a1, .int .i64 b1], .bool false]) (by simp [results, Tryz.results100, go_sem, c0, c1, c2, c3]) rfl ?_
        exact RetValR.no HN.out (by first | exact ((((HB5.out.setCell (Nat.le_refl _) _).setCell (Nat.le_refl _) _).setCell (Nat.le_refl _) _).setCell (Nat.le_refl _) _) | exact Below.drew ((((HB5.out.setCell (Nat.le_refl _) _).setCell (Nat.le_refl _) _).setCell (Nat.le_refl _) _).setCell (Nat.le_refl _) _))
    · have HN : Hid (Sg.valV t.data.toList = some ⟨1, X.data.toList, a1, b1⟩) := Lib.hid (by
        obtain ⟨h1, h2⟩ := HTE.out
        rcases ts with _ | q
        · cases h1
        · rw [HR.out, HKD.out, if_pos (by decide)]
          have h3 := h2 q rfl
          subst h3
          rfl)
      go_region
      all_goals
        go_wp2_with fail
        refine bodyPost_ret (v := .tuple #[.agg #[.int .i64 1, .string X, .int .i64 a1, .int .i64 b1], .bool true]) (by simp [results, Tryz.results100, go_sem, c0, c1, c2, c3]) rfl ?_
        exact RetValR.yes HN.out rfl (by first | exact ((((HB5.out.setCell (Nat.le_refl _) _).setCell (Nat.le_refl _) _).setCell (Nat.le_refl _) _).setCell (Nat.le_refl _) _) | exact Below.drew ((((HB5.out.setCell (Nat.le_refl _) _).setCell (Nat.le_refl _) _).setCell (Nat.le_refl _) _).setCell (Nat.le_refl _) _))
  · have d0 : ((((({ data := #[32, 115, 119, 99] } : ByteArray)[1]'(by decide)).toNat : Nat) : Int) == (((({ data := #[kb] } : ByteArray)[0]'(by show 0 < 1; decide)).toNat : Nat) : Int)) = false := by show ((115 : Int) == (kb.toNat : Int)) = false; rw [beq_eq_false_iff_ne]; intro e; exact h1 (UInt8.toNat_inj.1 (by have : (115 : UInt8).toNat = 115 := rfl; omega))
    have d1 : ((((({ data := #[32, 115, 119, 99] } : ByteArray)[2]'(by decide)).toNat : Nat) : Int) == (((({ data := #[kb] } : ByteArray)[0]'(by show 0 < 1; decide)).toNat : Nat) : Int)) = true := by show ((119 : Int) == (kb.toNat : Int)) = true; rw [h2]; rfl
    have d2 : ((((({ data := #[32, 115, 119, 99] } : ByteArray)[3]'(by decide)).toNat : Nat) : Int) == (((({ data := #[kb] } : ByteArray)[0]'(by show 0 < 1; decide)).toNat : Nat) : Int)) = false := by show ((99 : Int) == (kb.toNat : Int)) = false; rw [h2]; rfl
    have HKD : Hid (Sg.kindOf kb = 2) := Lib.hid hkd
    clear hkd h1 h2
    go_wp2_with fail
    refine wp_loop_rounds 4 ?_
    rw [rounds_succ]
    go_wp2_with fail
    go_quiet (fail)
    go_wp2_with fail
    rw [rounds_succ]
    go_wp2_with fail
    go_quiet (fail)
    go_wp2_with fail
    rw [rounds_succ]
    go_wp2_with fail
    go_quiet (fail)
    go_wp2_with fail
    rw [rounds_succ]
    go_wp2_with fail
    refine at_world ?_
    intro WL hWL
    have hvL : WL.heap[w3.heap.size]? = some (.cells #[.int .i64 2, .string X, .int .i64 0, .int .i64 0] 60 (0, 0)) := by rw [hWL]; exact gset (i := 0) HVS.out _
    have hBL : Below w3.heap.size wS WL := by rw [hWL]; first | exact below_drewN (Below.refl _ _) _ | exact below_drewN ((below_drewN (Below.refl _ _) _).setCell (p := ⟨w3.heap.size, 0, none⟩) (Nat.le_refl _) _) _ | exact (below_drewN (Below.refl _ _) _).setCell (p := ⟨w3.heap.size, 0, none⟩) (Nat.le_refl _) _
    refine (HTW.out _).mono ?_
    rintro e w4 ⟨rfl, hb4⟩
    have hsL := hBL.size
    have hs4 := hb4.size
    have hv4 := (hb4.block w3.heap.size (by omega)).trans hvL
    have hr4 := (hb4.block w.heap.size (by omega)).trans ((hBL.block w.heap.size (by omega)).trans HVR.out)
    have HB4 : Hid (Below w.heap.size w w4) := Lib.hid (HBS.out.trans ((hBL.trans (hb4.mono (by omega))).mono (by omega)))
    obtain ⟨w5, hw5⟩ : ∃ w5, w5 = (w4.setCell ⟨w3.heap.size, 2, none⟩ (.int .i64 a1)).setCell ⟨w3.heap.size, 3, none⟩ (.int .i64 b1) := ⟨_, rfl⟩
    have hv5 : w5.heap[w3.heap.size]? = some (.cells #[.int .i64 2, .string X, .int .i64 a1, .int .i64 b1] 60 (0, 0)) := by rw [hw5]; exact gset (i := 3) (gset (i := 2) hv4 _) _
    have hr5 : w5.heap[w.heap.size]? = some (.cells #[.int .i64 0, .string ⟨#[]⟩, .int .i64 0, .int .i64 0] 60 (0, 0)) := by
      rw [hw5, Below.heap_setCell _ ⟨w3.heap.size, 3, none⟩ _ _ (by show w.heap.size ≠ w3.heap.size; omega), Below.heap_setCell _ ⟨w3.heap.size, 2, none⟩ _ _ (by show w.heap.size ≠ w3.heap.size; omega)]
      exact hr4
    have HB5 : Hid (Below w.heap.size w w5) := Lib.hid (by rw [hw5]; exact (HB4.out.setCell (p := ⟨w3.heap.size, 2, none⟩) (show w.heap.size ≤ w3.heap.size by omega) _).setCell (p := ⟨w3.heap.size, 3, none⟩) (show w.heap.size ≤ w3.heap.size by omega) _)
    have HW5 := Lib.hid hw5
    have q2 : w4.cell? ⟨w3.heap.size, 2, none⟩ = some (.int .i64 0) := by simp [World.cell?, hv4]
    have q3 : w4.cell? ⟨w3.heap.size, 3, none⟩ = some (.int .i64 0) := by simp [World.cell?, hv4]
    have p2 : w4.frozen? ⟨w3.heap.size, 2, none⟩ = false := by simp [World.frozen?, hv4]
    have p3 : w4.frozen? ⟨w3.heap.size, 3, none⟩ = false := by simp [World.frozen?, hv4]
    clear hWL hvL hBL hb4 hv4 hr4 hw5 k0 yS v0 kv d0 d1 d2
    go_upto_region 16 with fail
    rw [← HW5.out]
    clear q2 q3 p2 p3
    have e0 : w5.cell? ⟨w3.heap.size, 0, none⟩ = some (.int .i64 2) := by simp [World.cell?, hv5]
    have e1 : w5.cell? ⟨w3.heap.size, 1, none⟩ = some (.string X) := by simp [World.cell?, hv5]
    have e2 : w5.cell? ⟨w3.heap.size, 2, none⟩ = some (.int .i64 a1) := by simp [World.cell?, hv5]
    have e3 : w5.cell? ⟨w3.heap.size, 3, none⟩ = some (.int .i64 b1) := by simp [World.cell?, hv5]
    have c0 : w5.cell? ⟨w.heap.size, 0, none⟩ = some (.int .i64 0) := by simp [World.cell?, hr5]
    have c1 : w5.cell? ⟨w.heap.size, 1, none⟩ = some (.string ⟨#[]⟩) := by simp [World.cell?, hr5]
    have c2 : w5.cell? ⟨w.heap.size, 2, none⟩ = some (.int .i64 0) := by simp [World.cell?, hr5]
    have c3 : w5.cell? ⟨w.heap.size, 3, none⟩ = some (.int .i64 0) := by simp [World.cell?, hr5]
    have z0 : w5.frozen? ⟨w.heap.size, 0, none⟩ = false := by simp [World.frozen?, hr5]
    have z1 : w5.frozen? ⟨w.heap.size, 1, none⟩ = false := by simp [World.frozen?, hr5]
    have z2 : w5.frozen? ⟨w.heap.size, 2, none⟩ = false := by simp [World.frozen?, hr5]
    have z3 : w5.frozen? ⟨w.heap.size, 3, none⟩ = false := by simp [World.frozen?, hr5]
    have hne : w.heap.size ≠ w3.heap.size := by omega
    clear hv5 hr5
    cases is
    · have HN : Hid (Sg.valV t.data.toList = none) := Lib.hid (by
        obtain ⟨h1, h2⟩ := HTE.out
        rcases ts with _ | q
        · rw [HR.out, HKD.out, if_pos (by decide)]
        · cases h1)
      go_region
      all_goals
        go_wp2_with fail
        refine bodyPost_ret (v := .tuple #[.agg #[.int .i64 2, .string X, .int .i64 a1, .int .i64 b1], .bool false]) (by simp [results, Tryz.results100, go_sem, c0, c1, c2, c3]) rfl ?_
        exact RetValR.no HN.out (by first | exact ((((HB5.out.setCell (Nat.le_refl _) _).setCell (Nat.le_refl _) _).setCell (Nat.le_refl _) _).setCell (Nat.le_refl _) _) | exact Below.drew ((((HB5.out.setCell (Nat.le_refl _) _).setCell (Nat.le_refl _) _).setCell (Nat.le_refl _) _).setCell (Nat.le_refl _) _))
    · have HN : Hid (Sg.valV t.data.toList = some ⟨2, X.data.toList, a1, b1⟩) := Lib.hid (by
        obtain ⟨h1, h2⟩ := HTE.out
        rcases ts with _ | q
        · cases h1
        · rw [HR.out, HKD.out, if_pos (by decide)]
          have h3 := h2 q rfl
          subst h3
          rfl)
      go_region
      all_goals
        go_wp2_with fail
        refine bodyPost_ret (v := .tuple #[.agg #[.int .i64 2, .string X, .int .i64 a1, .int .i64 b1], .bool true]) (by simp [results, Tryz.results100, go_sem, c0, c1, c2, c3]) rfl ?_
        exact RetValR.yes HN.out rfl (by first | exact ((((HB5.out.setCell (Nat.le_refl _) _).setCell (Nat.le_refl _) _).setCell (Nat.le_refl _) _).setCell (Nat.le_refl _) _) | exact Below.drew ((((HB5.out.setCell (Nat.le_refl _) _).setCell (Nat.le_refl _) _).setCell (Nat.le_refl _) _).setCell (Nat.le_refl _) _))
  · have d0 : ((((({ data := #[32, 115, 119, 99] } : ByteArray)[1]'(by decide)).toNat : Nat) : Int) == (((({ data := #[kb] } : ByteArray)[0]'(by show 0 < 1; decide)).toNat : Nat) : Int)) = false := by show ((115 : Int) == (kb.toNat : Int)) = false; rw [beq_eq_false_iff_ne]; intro e; exact h1 (UInt8.toNat_inj.1 (by have : (115 : UInt8).toNat = 115 := rfl; omega))
    have d1 : ((((({ data := #[32, 115, 119, 99] } : ByteArray)[2]'(by decide)).toNat : Nat) : Int) == (((({ data := #[kb] } : ByteArray)[0]'(by show 0 < 1; decide)).toNat : Nat) : Int)) = false := by show ((119 : Int) == (kb.toNat : Int)) = false; rw [beq_eq_false_iff_ne]; intro e; exact h2 (UInt8.toNat_inj.1 (by have : (119 : UInt8).toNat = 119 := rfl; omega))
    have d2 : ((((({ data := #[32, 115, 119, 99] } : ByteArray)[3]'(by decide)).toNat : Nat) : Int) == (((({ data := #[kb] } : ByteArray)[0]'(by show 0 < 1; decide)).toNat : Nat) : Int)) = true := by show ((99 : Int) == (kb.toNat : Int)) = true; rw [h3]; rfl
    have HKD : Hid (Sg.kindOf kb = 3) := Lib.hid hkd
    clear hkd h1 h2 h3
    go_wp2_with fail
    refine wp_loop_rounds 4 ?_
    rw [rounds_succ]
    go_wp2_with fail
    go_quiet (fail)
    go_wp2_with fail
    rw [rounds_succ]
    go_wp2_with fail
    go_quiet (fail)
    go_wp2_with fail
    rw [rounds_succ]
    go_wp2_with fail
    go_quiet (fail)
    go_wp2_with fail
    rw [rounds_succ]
    go_wp2_with fail
    refine at_world ?_
    intro WL hWL
    have hvL : WL.heap[w3.heap.size]? = some (.cells #[.int .i64 3, .string X, .int .i64 0, .int .i64 0] 60 (0, 0)) := by rw [hWL]; exact gset (i := 0) HVS.out _
    have hBL : Below w3.heap.size wS WL := by rw [hWL]; first | exact below_drewN (Below.refl _ _) _ | exact below_drewN ((below_drewN (Below.refl _ _) _).setCell (p := ⟨w3.heap.size, 0, none⟩) (Nat.le_refl _) _) _ | exact (below_drewN (Below.refl _ _) _).setCell (p := ⟨w3.heap.size, 0, none⟩) (Nat.le_refl _) _
    refine (HTW.out _).mono ?_
    rintro e w4 ⟨rfl, hb4⟩
    have hsL := hBL.size
    have hs4 := hb4.size
    have hv4 := (hb4.block w3.heap.size (by omega)).trans hvL
    have hr4 := (hb4.block w.heap.size (by omega)).trans ((hBL.block w.heap.size (by omega)).trans HVR.out)
    have HB4 : Hid (Below w.heap.size w w4) := Lib.hid (HBS.out.trans ((hBL.trans (hb4.mono (by omega))).mono (by omega)))
    obtain ⟨w5, hw5⟩ : ∃ w5, w5 = (w4.setCell ⟨w3.heap.size, 2, none⟩ (.int .i64 a1)).setCell ⟨w3.heap.size, 3, none⟩ (.int .i64 b1) := ⟨_, rfl⟩
    have hv5 : w5.heap[w3.heap.size]? = some (.cells #[.int .i64 3, .string X, .int .i64 a1, .int .i64 b1] 60 (0, 0)) := by rw [hw5]; exact gset (i := 3) (gset (i := 2) hv4 _) _
    have hr5 : w5.heap[w.heap.size]? = some (.cells #[.int .i64 0, .string ⟨#[]⟩, .int .i64 0, .int .i64 0] 60 (0, 0)) := by
      rw [hw5, Below.heap_setCell _ ⟨w3.heap.size, 3, none⟩ _ _ (by show w.heap.size ≠ w3.heap.size; omega), Below.heap_setCell _ ⟨w3.heap.size, 2, none⟩ _ _ (by show w.heap.size ≠ w3.heap.size; omega)]
      exact hr4
    have HB5 : Hid (Below w.heap.size w w5) := Lib.hid (by rw [hw5]; exact (HB4.out.setCell (p := ⟨w3.heap.size, 2, none⟩) (show w.heap.size ≤ w3.heap.size by omega) _).setCell (p := ⟨w3.heap.size, 3, none⟩) (show w.heap.size ≤ w3.heap.size by omega) _)
    have HW5 := Lib.hid hw5
    have q2 : w4.cell? ⟨w3.heap.size, 2, none⟩ = some (.int .i64 0) := by simp [World.cell?, hv4]
    have q3 : w4.cell? ⟨w3.heap.size, 3, none⟩ = some (.int .i64 0) := by simp [World.cell?, hv4]
    have p2 : w4.frozen? ⟨w3.heap.size, 2, none⟩ = false := by simp [World.frozen?, hv4]
    have p3 : w4.frozen? ⟨w3.heap.size, 3, none⟩ = false := by simp [World.frozen?, hv4]
    clear hWL hvL hBL hb4 hv4 hr4 hw5 k0 yS v0 kv d0 d1 d2
    go_upto_region 16 with fail
    rw [← HW5.out]
    clear q2 q3 p2 p3
    have e0 : w5.cell? ⟨w3.heap.size, 0, none⟩ = some (.int .i64 3) := by simp [World.cell?, hv5]
    have e1 : w5.cell? ⟨w3.heap.size, 1, none⟩ = some (.string X) := by simp [World.cell?, hv5]
    have e2 : w5.cell? ⟨w3.heap.size, 2, none⟩ = some (.int .i64 a1) := by simp [World.cell?, hv5]
    have e3 : w5.cell? ⟨w3.heap.size, 3, none⟩ = some (.int .i64 b1) := by simp [World.cell?, hv5]
    have c0 : w5.cell? ⟨w.heap.size, 0, none⟩ = some (.int .i64 0) := by simp [World.cell?, hr5]
    have c1 : w5.cell? ⟨w.heap.size, 1, none⟩ = some (.string ⟨#[]⟩) := by simp [World.cell?, hr5]
    have c2 : w5.cell? ⟨w.heap.size, 2, none⟩ = some (.int .i64 0) := by simp [World.cell?, hr5]
    have c3 : w5.cell? ⟨w.heap.size, 3, none⟩ = some (.int .i64 0) := by simp [World.cell?, hr5]
    have z0 : w5.frozen? ⟨w.heap.size, 0, none⟩ = false := by simp [World.frozen?, hr5]
    have z1 : w5.frozen? ⟨w.heap.size, 1, none⟩ = false := by simp [World.frozen?, hr5]
    have z2 : w5.frozen? ⟨w.heap.size, 2, none⟩ = false := by simp [World.frozen?, hr5]
    have z3 : w5.frozen? ⟨w.heap.size, 3, none⟩ = false := by simp [World.frozen?, hr5]
    have hne : w.heap.size ≠ w3.heap.size := by omega
    clear hv5 hr5
    cases is
    · have HN : Hid (Sg.valV t.data.toList = none) := Lib.hid (by
        obtain ⟨h1, h2⟩ := HTE.out
        rcases ts with _ | q
        · rw [HR.out, HKD.out, if_pos (by decide)]
        · cases h1)
      go_region
      all_goals
        go_wp2_with fail
        refine bodyPost_ret (v := .tuple #[.agg #[.int .i64 3, .string X, .int .i64 a1, .int .i64 b1], .bool false]) (by simp [results, Tryz.results100, go_sem, c0, c1, c2, c3]) rfl ?_
        exact RetValR.no HN.out (by first | exact ((((HB5.out.setCell (Nat.le_refl _) _).setCell (Nat.le_refl _) _).setCell (Nat.le_refl _) _).setCell (Nat.le_refl _) _) | exact Below.drew ((((HB5.out.setCell (Nat.le_refl _) _).setCell (Nat.le_refl _) _).setCell (Nat.le_refl _) _).setCell (Nat.le_refl _) _))
    · have HN : Hid (Sg.valV t.data.toList = some ⟨3, X.data.toList, a1, b1⟩) := Lib.hid (by
        obtain ⟨h1, h2⟩ := HTE.out
        rcases ts with _ | q
        · cases h1
        · rw [HR.out, HKD.out, if_pos (by decide)]
          have h3 := h2 q rfl
          subst h3
          rfl)
      go_region
      all_goals
        go_wp2_with fail
        refine bodyPost_ret (v := .tuple #[.agg #[.int .i64 3, .string X, .int .i64 a1, .int .i64 b1], .bool true]) (by simp [results, Tryz.results100, go_sem, c0, c1, c2, c3]) rfl ?_
        exact RetValR.yes HN.out rfl (by first | exact ((((HB5.out.setCell (Nat.le_refl _) _).setCell (Nat.le_refl _) _).setCell (Nat.le_refl _) _).setCell (Nat.le_refl _) _) | exact Below.drew ((((HB5.out.setCell (Nat.le_refl _) _).setCell (Nat.le_refl _) _).setCell (Nat.le_refl _) _).setCell (Nat.le_refl _) _))
  · have d0 : ((((({ data := #[32, 115, 119, 99] } : ByteArray)[1]'(by decide)).toNat : Nat) : Int) == (((({ data := #[kb] } : ByteArray)[0]'(by show 0 < 1; decide)).toNat : Nat) : Int)) = false := by show ((115 : Int) == (kb.toNat : Int)) = false; rw [beq_eq_false_iff_ne]; intro e; exact h1 (UInt8.toNat_inj.1 (by have : (115 : UInt8).toNat = 115 := rfl; omega))
    have d1 : ((((({ data := #[32, 115, 119, 99] } : ByteArray)[2]'(by decide)).toNat : Nat) : Int) == (((({ data := #[kb] } : ByteArray)[0]'(by show 0 < 1; decide)).toNat : Nat) : Int)) = false := by show ((119 : Int) == (kb.toNat : Int)) = false; rw [beq_eq_false_iff_ne]; intro e; exact h2 (UInt8.toNat_inj.1 (by have : (119 : UInt8).toNat = 119 := rfl; omega))
    have d2 : ((((({ data := #[32, 115, 119, 99] } : ByteArray)[3]'(by decide)).toNat : Nat) : Int) == (((({ data := #[kb] } : ByteArray)[0]'(by show 0 < 1; decide)).toNat : Nat) : Int)) = false := by show ((99 : Int) == (kb.toNat : Int)) = false; rw [beq_eq_false_iff_ne]; intro e; exact h3 (UInt8.toNat_inj.1 (by have : (99 : UInt8).toNat = 99 := rfl; omega))
    have HKD : Hid (Sg.kindOf kb = 0) := Lib.hid hkd
    clear hkd h1 h2 h3
    go_wp2_with fail
    refine wp_loop_rounds 4 ?_
    rw [rounds_succ]
    go_wp2_with fail
    go_quiet (fail)
    go_wp2_with fail
    rw [rounds_succ]
    go_wp2_with fail
    go_quiet (fail)
    go_wp2_with fail
    rw [rounds_succ]
    go_wp2_with fail
    go_quiet (fail)
    go_wp2_with fail
    rw [rounds_succ]
    go_wp2_with fail
    refine at_world ?_
    intro WL hWL
    have hvL : WL.heap[w3.heap.size]? = some (.cells #[.int .i64 0, .string X, .int .i64 0, .int .i64 0] 60 (0, 0)) := by rw [hWL]; exact HVS.out
    have hBL : Below w3.heap.size wS WL := by rw [hWL]; first | exact below_drewN (Below.refl _ _) _ | exact below_drewN ((below_drewN (Below.refl _ _) _).setCell (p := ⟨w3.heap.size, 0, none⟩) (Nat.le_refl _) _) _ | exact (below_drewN (Below.refl _ _) _).setCell (p := ⟨w3.heap.size, 0, none⟩) (Nat.le_refl _) _
    refine (HTW.out _).mono ?_
    rintro e w4 ⟨rfl, hb4⟩
    have hsL := hBL.size
    have hs4 := hb4.size
    have hv4 := (hb4.block w3.heap.size (by omega)).trans hvL
    have hr4 := (hb4.block w.heap.size (by omega)).trans ((hBL.block w.heap.size (by omega)).trans HVR.out)
    have HB4 : Hid (Below w.heap.size w w4) := Lib.hid (HBS.out.trans ((hBL.trans (hb4.mono (by omega))).mono (by omega)))
    obtain ⟨w5, hw5⟩ : ∃ w5, w5 = (w4.setCell ⟨w3.heap.size, 2, none⟩ (.int .i64 a1)).setCell ⟨w3.heap.size, 3, none⟩ (.int .i64 b1) := ⟨_, rfl⟩
    have hv5 : w5.heap[w3.heap.size]? = some (.cells #[.int .i64 0, .string X, .int .i64 a1, .int .i64 b1] 60 (0, 0)) := by rw [hw5]; exact gset (i := 3) (gset (i := 2) hv4 _) _
    have hr5 : w5.heap[w.heap.size]? = some (.cells #[.int .i64 0, .string ⟨#[]⟩, .int .i64 0, .int .i64 0] 60 (0, 0)) := by
      rw [hw5, Below.heap_setCell _ ⟨w3.heap.size, 3, none⟩ _ _ (by show w.heap.size ≠ w3.heap.size; omega), Below.heap_setCell _ ⟨w3.heap.size, 2, none⟩ _ _ (by show w.heap.size ≠ w3.heap.size; omega)]
      exact hr4
    have HB5 : Hid (Below w.heap.size w w5) := Lib.hid (by rw [hw5]; exact (HB4.out.setCell (p := ⟨w3.heap.size, 2, none⟩) (show w.heap.size ≤ w3.heap.size by omega) _).setCell (p := ⟨w3.heap.size, 3, none⟩) (show w.heap.size ≤ w3.heap.size by omega) _)
    have HW5 := Lib.hid hw5
    have q2 : w4.cell? ⟨w3.heap.size, 2, none⟩ = some (.int .i64 0) := by simp [World.cell?, hv4]
    have q3 : w4.cell? ⟨w3.heap.size, 3, none⟩ = some (.int .i64 0) := by simp [World.cell?, hv4]
    have p2 : w4.frozen? ⟨w3.heap.size, 2, none⟩ = false := by simp [World.frozen?, hv4]
    have p3 : w4.frozen? ⟨w3.heap.size, 3, none⟩ = false := by simp [World.frozen?, hv4]
    clear hWL hvL hBL hb4 hv4 hr4 hw5 k0 yS v0 kv d0 d1 d2
    go_upto_region 16 with fail
    rw [← HW5.out]
    clear q2 q3 p2 p3
    have e0 : w5.cell? ⟨w3.heap.size, 0, none⟩ = some (.int .i64 0) := by simp [World.cell?, hv5]
    have e1 : w5.cell? ⟨w3.heap.size, 1, none⟩ = some (.string X) := by simp [World.cell?, hv5]
    have e2 : w5.cell? ⟨w3.heap.size, 2, none⟩ = some (.int .i64 a1) := by simp [World.cell?, hv5]
    have e3 : w5.cell? ⟨w3.heap.size, 3, none⟩ = some (.int .i64 b1) := by simp [World.cell?, hv5]
    have c0 : w5.cell? ⟨w.heap.size, 0, none⟩ = some (.int .i64 0) := by simp [World.cell?, hr5]
    have c1 : w5.cell? ⟨w.heap.size, 1, none⟩ = some (.string ⟨#[]⟩) := by simp [World.cell?, hr5]
    have c2 : w5.cell? ⟨w.heap.size, 2, none⟩ = some (.int .i64 0) := by simp [World.cell?, hr5]
    have c3 : w5.cell? ⟨w.heap.size, 3, none⟩ = some (.int .i64 0) := by simp [World.cell?, hr5]
    have z0 : w5.frozen? ⟨w.heap.size, 0, none⟩ = false := by simp [World.frozen?, hr5]
    have z1 : w5.frozen? ⟨w.heap.size, 1, none⟩ = false := by simp [World.frozen?, hr5]
    have z2 : w5.frozen? ⟨w.heap.size, 2, none⟩ = false := by simp [World.frozen?, hr5]
    have z3 : w5.frozen? ⟨w.heap.size, 3, none⟩ = false := by simp [World.frozen?, hr5]
    have hne : w.heap.size ≠ w3.heap.size := by omega
    clear hv5 hr5
    cases is
    · have HN : Hid (Sg.valV t.data.toList = none) := Lib.hid (by rw [HR.out, HKD.out, if_neg (by decide)])
      go_region
      all_goals
        go_wp2_with fail
        refine bodyPost_ret (v := .tuple #[.agg #[.int .i64 0, .string X, .int .i64 a1, .int .i64 b1], .bool false]) (by simp [results, Tryz.results100, go_sem, c0, c1, c2, c3]) rfl ?_
        exact RetValR.no HN.out (by first | exact ((((HB5.out.setCell (Nat.le_refl _) _).setCell (Nat.le_refl _) _).setCell (Nat.le_refl _) _).setCell (Nat.le_refl _) _) | exact Below.drew ((((HB5.out.setCell (Nat.le_refl _) _).setCell (Nat.le_refl _) _).setCell (Nat.le_refl _) _).setCell (Nat.le_refl _) _))
    · have HN : Hid (Sg.valV t.data.toList = none) := Lib.hid (by rw [HR.out, HKD.out, if_neg (by decide)])
      go_region
      all_goals
        go_wp2_with fail
        refine bodyPost_ret (v := .tuple #[.agg #[.int .i64 0, .string X, .int .i64 a1, .int .i64 b1], .bool false]) (by simp [results, Tryz.results100, go_sem, c0, c1, c2, c3]) rfl ?_
        exact RetValR.no HN.out (by first | exact ((((HB5.out.setCell (Nat.le_refl _) _).setCell (Nat.le_refl _) _).setCell (Nat.le_refl _) _).setCell (Nat.le_refl _) _) | exact Below.drew ((((HB5.out.setCell (Nat.le_refl _) _).setCell (Nat.le_refl _) _).setCell (Nat.le_refl _) _).setCell (Nat.le_refl _) _))
end Go.Proofs.YtkmimjngmfdpmaaGreatDoor
