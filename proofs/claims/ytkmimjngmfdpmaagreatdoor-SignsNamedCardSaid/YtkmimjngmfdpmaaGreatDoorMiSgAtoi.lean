/- ostraconref01.ParseName. Where the digits of a name begin: IndexAny and takeWhile say the same. strconv.Atoi of a text of digits of whatever length. DERIVED: THE SHELF's CONTRACTS AT THIS DUMP, IN PLAIN WORDS (tools/lay-plain.mjs out of 'TryzShelf.lean', which tools/lay-shelf.mjs wrote): THE SAME DECLARATIONS UNDER THE SAME NAMES: 'import', 'namespace', 'open', 'def', 'theorem' AND NOTHING ELSE: no command of the shelf's: FOR A HAND-IN. Each laying: the table of numbers ('.._ren') and one theorem, a field a fact of the dump's own or the kernel's comparison; each contract: ONE APPLICATION. strconv.Atoi of whatever text. -/
import Derived.Test.YtkmimjngmfdpmaaGreatDoorMhSgGSame
import Derived.Test.YtkmimjngmfdpmaaGreatDoorMhSgRVal
import Derived.Test.YtkmimjngmfdpmaaGreatDoorMgBegin
import Derived.Lib.IndexAny
import Derived.Lib.AtoiAll
import Derived.Shelf.Strconv.AtoiAll
import Derived.Shelf.Strconv.ErrVarAll
import Derived.Test.YtkmimjngmfdpmaaGreatDoorProg
import Derived.Test.YtkmimjngmfdpmaaGreatDoorMgSgRead
namespace Go.Proofs.YtkmimjngmfdpmaaGreatDoor
open Go Go.RowKit

def RetISE (q : Int × ByteArray × Int) (w : World) (e : Ending) (w' : World) : Prop := e = .returned (.tuple #[.int .i64 q.1, .string q.2.1, .int .i64 q.2.2]) ∧ Below w.heap.size w w'
theorem RetISE.of {q : Int × ByteArray × Int} {a b : Int} {t : ByteArray} {w w' : World} (hq : q = (a, t, b)) (hb : Below w.heap.size w w') : RetISE q w (.returned (.tuple #[.int .i64 a, .string t, .int .i64 b])) w' := by subst hq; exact ⟨rfl, hb⟩
theorem take_while_at {p : UInt8 → Bool} : ∀ (l : List UInt8) (k : Nat), (l.take k).all p = true → (∀ b, l[k]? = some b → p b = false) → k ≤ l.length → l.takeWhile p = l.take k ∧ l.dropWhile p = l.drop k
  | [], k, _, _, hk => by
    have : k = 0 := by simpa using hk
    subst this
    exact ⟨rfl, rfl⟩
  | a :: l, 0, _, h2, _ => by
    have h := h2 a rfl
    simp [h]
  | a :: l, k + 1, h1, h2, hk => by
    rw [List.take_succ_cons, List.all_cons, Bool.and_eq_true] at h1
    obtain ⟨i1, i2⟩ := take_while_at l k h1.2 (fun b hb => h2 b (by simpa using hb)) (by simpa using hk)
    rw [List.takeWhile_cons, List.dropWhile_cons, if_pos h1.1, if_pos h1.1, i1, i2]
    exact ⟨rfl, rfl⟩
/-- at place k (0 is the first) stands the sign that is meant -/
def Sg.hitB (d : List UInt8) (k : Nat) : Bool := (decide (k = 0) && decide (d = [])) || (decide (0 < k) && decide (d = Lib.decDigits (k + 1)))
theorem Sg.hit_iff {d : List UInt8} (h : Sg.numOk d = true) (k : Nat) : Sg.hitB d k = true ↔ Sg.numOf d = (k : Int) + 1 := by
  unfold Sg.numOk at h
  simp only [Bool.and_eq_true, Bool.not_eq_true', decide_eq_false_iff_not] at h
  obtain ⟨⟨h1, h2⟩, h3⟩ := h
  unfold Sg.hitB Sg.numOf
  by_cases hd : d = []
  · subst hd
    rw [if_pos rfl]
    have hne : ¬ ([] : List UInt8) = Lib.decDigits (k + 1) := fun e => by
      have := (Sg.dig_of_dec (k + 1)).2
      rw [← e] at this
      have : (0 : Int) = ((k + 1 : Nat) : Int) := this
      omega
    simp only [hne, decide_false, Bool.and_false, Bool.or_false]
    simp
    omega
  · rw [if_neg hd]
    have := Sg.dec_iff hd h1 h3 (k + 1)
    simp only [hd, decide_false, Bool.and_false, Bool.false_or, Bool.and_eq_true, decide_eq_true_eq]
    rw [this]
    push_cast
    constructor
    · exact fun q => q.2
    · intro q
      refine ⟨?_, q⟩
      refine Nat.pos_of_ne_zero fun e => ?_
      subst e
      exact h2 (by
        have h4 := (this).2 (by omega)
        rw [h4]; simp [Lib.decDigits])
theorem Sg.readAt_hit {b : List Int} {d : List UInt8} {t : ByteArray} {k : Nat} {x : Int} (hd : Sg.numOk d = true) (hk : b[k]? = some x) (hh : Sg.hitB d k = true) : Sg.readAt b (Sg.numOf d) t = (x, t, 0) := by
  have h := (Sg.hit_iff hd k).1 hh
  have hl := (List.getElem?_eq_some_iff.1 hk).1
  unfold Sg.readAt
  rw [h, if_neg (by omega), show ((k : Int) + 1 - 1).toNat = k by omega, List.getD, hk]
  rfl
theorem Sg.readAt_none {b : List Int} {d : List UInt8} {t : ByteArray} (hd : Sg.numOk d = true) (hn : ∀ k, k < b.length → Sg.hitB d k = false) : Sg.readAt b (Sg.numOf d) t = (0, ⟨#[]⟩, 3) := by
  have h1 : 1 ≤ Sg.numOf d := by
    unfold Sg.numOf
    by_cases h : d = []
    · rw [if_pos h]; omega
    · rw [if_neg h]
      have h' := hd
      unfold Sg.numOk at h'
      simp only [Bool.and_eq_true, Bool.not_eq_true', decide_eq_false_iff_not] at h'
      exact Sg.digV_pos d h h'.1.1 h'.2
  unfold Sg.readAt
  rw [if_pos]
  by_cases h : (b.length : Int) < Sg.numOf d
  · exact h
  · have := hn (Sg.numOf d - 1).toNat (by omega)
    rw [(Sg.hit_iff hd _).2 (by omega)] at this
    cases this
set_option maxRecDepth 100000 in
set_option maxHeartbeats 8000000 in
theorem r1ParseName_any (v : Value) (l : Sg.SList) (n : ByteArray) (per : Int) (w : World) (hr : RdSL w w.heap.size v l) (hvl : ∀ s ∈ l.signs, s.values.length ≤ 1000) (hn : n.size ≤ 1000000) :
    Calls Tryz.prog 38 #[v, .string n, .int .i64 per] w (RetISE (Sg.readNameV l n per) w) := by
  have HRL := Lib.hid fun (W : World) (hW : Below w.heap.size w W) => hr.on hW
  obtain ⟨⟨u, rfl, hgl⟩, hf⟩ := hr
  obtain ⟨A0, c0, rfl⟩ := hgl.form
  obtain ⟨W1, hW1⟩ : ∃ W1, W1 = w.alloc (.cells #[.int .i64 l.periods, .slice A0 l.signs.length c0] 24) := ⟨_, rfl⟩
  have hb1 : Below w.heap.size w W1 := by rw [hW1]; exact (Below.refl _ _).alloc (Nat.le_refl _) _
  have hX : W1.heap[w.heap.size]? = some (.cells #[.int .i64 l.periods, .slice A0 l.signs.length c0] 24 (0, 0)) := by rw [hW1]; exact heap_alloc_new _ _
  have hs1 : w.heap.size < W1.heap.size := (Array.getElem?_eq_some_iff.1 hX).1
  have CX : Hid (∀ W, Below W1.heap.size W1 W → W.cell? ⟨w.heap.size, 0, none⟩ = some (.int .i64 l.periods) ∧ W.cell? ⟨w.heap.size, 1, none⟩ = some (.slice A0 l.signs.length c0)) := Lib.hid fun W hW => by
    have p := (hW.block _ hs1).trans hX
    exact ⟨by simp [World.cell?, p], by simp [World.cell?, p]⟩
  obtain ⟨x0, x1⟩ := CX.out W1 (Below.refl _ _)
  have HB1 := Lib.hid hb1
  have HW1 := Lib.hid hW1
  have HCK := Lib.hid (r1Check_any _ l W1 (HRL.out W1 hb1))
  have HBC := Lib.hid fun (t : ByteArray) (W : World) (hW : Below w.heap.size w W) => r1Bearers_any _ l 1 t per W (HRL.out W hW) hvl
  obtain ⟨e1, he1⟩ : ∃ e1, e1 = Sg.checkV l := ⟨_, rfl⟩
  have HE1 := Lib.hid he1
  rw [← he1] at HCK
  obtain ⟨res, hres⟩ : ∃ q, q = Sg.readNameV l n per := ⟨_, rfl⟩
  rw [← hres]
  have HRES := Lib.hid hres
  clear hgl hf hW1 hb1 hX he1 hvl hres
  go_enter Tryz.func38, Tryz.ntmps38
  go_upto_region 1 with fail
  rw [← HW1.out]
  go_wp2_with fail
  refine HCK.out.mono ?_
  rintro e w2 ⟨rfl, hb2⟩
  have HB2 := Lib.hid (HB1.out.trans (hb2.mono (by omega)))
  have HCX := Lib.hid (CX.out w2 hb2)
  clear hb2 x0 x1
  obtain ⟨x0, x1⟩ := HCX.out
  by_cases h0 : e1 = 0
  case neg =>
    have HV : Hid (res = (0, ⟨#[]⟩, e1)) := Lib.hid (by rw [HRES.out]; unfold Sg.readNameV; rw [if_pos (by rw [← HE1.out]; exact h0), ← HE1.out])
    go_wp2_with fail
    go_ret3
    exact RetISE.of HV.out HB2.out
  subst h0
  by_cases hpb : Sg.perBad l per
  · have HV : Hid (res = (0, ⟨#[]⟩, 13)) := Lib.hid (by rw [HRES.out]; unfold Sg.readNameV; rw [if_neg (by rw [← HE1.out]; simp), if_pos hpb])
    have hor : per < 1 ∨ (¬ per < 1 ∧ l.periods < per) := by unfold Sg.perBad at hpb; omega
    clear hpb
    rcases hor with h1 | ⟨h1, h2⟩
    all_goals
      go_wp2_with fail
      go_ret3
      exact RetISE.of HV.out HB2.out
  obtain ⟨q3, q4⟩ : ¬ per < 1 ∧ ¬ l.periods < per := by unfold Sg.perBad at hpb; omega
  have HRN : Hid (res = if Sg.textB 1 (Sg.bs (Sg.textOf n.data.toList)) = true ∧ Sg.numOk (Sg.digsOf n.data.toList) = true then Sg.readAt (Sg.bearV l.signs 1 (Sg.bs (Sg.textOf n.data.toList)) per) (Sg.numOf (Sg.digsOf n.data.toList)) (Sg.bs (Sg.textOf n.data.toList)) else (0, ⟨#[]⟩, 4)) := Lib.hid (by
    rw [HRES.out]; unfold Sg.readNameV; rw [if_neg (by rw [← HE1.out]; simp), if_neg hpb])
  have HBE : Hid (Sg.bearE l 1 per = 0) := Lib.hid (by unfold Sg.bearE; rw [if_neg (by rw [← HE1.out]; simp), if_neg (by decide), if_neg hpb])
  have HCL : Hid (Sg.checkV l = 0) := Lib.hid HE1.out.symm
  clear hpb
  have hlen : n.data.toList.length = n.size := rfl
  go_wp2_with fail
  clear x0 x1 q3 q4
  go_loopg [10] n.size (fun g i wr => ∃ k : Nat, k ≤ n.size ∧ g = n.size - k ∧ i = .int .i64 k ∧ wr = w2 ∧ (n.data.toList.take k).all Sg.notDig = true)
  case atStart => exact ⟨0, Nat.zero_le _, rfl, rfl, rfl, rfl⟩
  case round =>
    obtain ⟨k, hk, rfl, rfl, rfl, hal⟩ := hrel
    have HAL := Lib.hid hal
    clear hal
    have hcases : (∃ h : k < n.size, Sg.notDig (n[k]'h) = true) ∨ (k < n.size ∧ ∀ b, n.data.toList[k]? = some b → Sg.notDig b = false) ∨ k = n.size := by
      by_cases h : k < n.size
      · cases hd : Sg.notDig n[k]
        · refine .inr (.inl ⟨h, fun b hb => ?_⟩)
          rw [Lib.data_getElem? n k h] at hb
          cases hb; exact hd
        · exact .inl ⟨h, hd⟩
      · exact .inr (.inr (by omega))
    rcases hcases with ⟨hlt, hnd⟩ | hstop
    · have HNX : Hid ((n.data.toList.take (k + 1)).all Sg.notDig = true) := Lib.hid (by rw [take_succ_all Sg.notDig n k hlt, HAL.out, hnd]; rfl)
      have hbt : (decide ((48 : Int) ≤ (n[k].toNat : Int)) && decide ((n[k].toNat : Int) ≤ 57)) = false := by
        rw [← digB_in]; unfold Sg.notDig at hnd; simpa using hnd
      have HBT := Lib.hid hbt
      clear hnd hbt
      go_wp2_with fail
      refine (r1between_any _ _ _ _).mono ?_
      rw [HBT.out]
      rintro e w' ⟨rfl, rfl⟩
      go_wp2_with fail
      go_roundg (n.size - (k + 1))
      case measure => omega
      case rel => exact ⟨k + 1, by omega, rfl, by go_num, rfl, HNX.out⟩
    have HTW : Hid (Sg.textOf n.data.toList = n.data.toList.take k ∧ Sg.digsOf n.data.toList = n.data.toList.drop k) := Lib.hid (take_while_at _ k HAL.out (fun b hb => by
      rcases hstop with ⟨-, h⟩ | h
      · exact h b hb
      · rw [List.getElem?_eq_none (by omega)] at hb; cases hb) (by omega))
    obtain ⟨T, hT⟩ : ∃ T, T = n.extract 0 k := ⟨_, rfl⟩
    obtain ⟨D, hD⟩ : ∃ D, D = n.extract k n.size := ⟨_, rfl⟩
    have HT : Hid (T = Sg.bs (Sg.textOf n.data.toList)) := Lib.hid (by
      refine Lx.bytes_eq ?_
      rw [hT, extract_take _ _ _ hk, Sg.bs_list, HTW.out.1]; rfl)
    have HD : Hid (D.data.toList = Sg.digsOf n.data.toList) := Lib.hid (by
      rw [hD, extract_take _ _ _ (Nat.le_refl _), HTW.out.2, List.take_of_length_le (by omega)])
    have hTs : T.size ≤ 1000000 := by rw [hT, ByteArray.size_extract]; omega
    have hDs : D.size ≤ 1000000 := by rw [hD, ByteArray.size_extract]; omega
    have HRG := Lib.hid fun W => r1Right_any 1 T W (Nat.le_trans hTs (by decide))
    have HBT := HBC.out T
    obtain ⟨tb, htb⟩ : ∃ tb, tb = Sg.textB 1 T := ⟨_, rfl⟩
    rw [← htb] at HRG
    have HR2 : Hid (res = if tb = true ∧ Sg.numOk D.data.toList = true then Sg.readAt (Sg.bearV l.signs 1 T per) (Sg.numOf D.data.toList) T else (0, ⟨#[]⟩, 4)) := Lib.hid (by rw [HRN.out, htb, HD.out, HT.out])
    have HTE := Lib.hid hT
    have HDE := Lib.hid hD
    have HBQ : Hid (Sg.bearQ l 1 T per = Sg.bearV l.signs 1 T per) := Lib.hid (by unfold Sg.bearQ; rw [if_pos HBE.out])
    have hql : (Sg.bearV l.signs 1 T per).length ≤ 200 := by
      have h1 := Sg.bearV_len l.signs 1 T per
      have h2 := Sg.check_len HCL.out
      omega
    obtain ⟨q, hq⟩ : ∃ q, q = Sg.bearV l.signs 1 T per := ⟨_, rfl⟩
    rw [HBQ.out, HBE.out, ← hq] at HBT
    have HBW := Lib.hid HBT
    rw [← hq] at HR2 hql
    have hstop2 : (∃ h : k < n.size, (decide ((48 : Int) ≤ ((n[k]'h).toNat : Int)) && decide (((n[k]'h).toNat : Int) ≤ 57)) = true) ∨ k = n.size := by
      rcases hstop with ⟨h, h2⟩ | h
      · refine .inl ⟨h, ?_⟩
        have h3 := h2 _ (Lib.data_getElem? n k h)
        rw [← digB_in]; unfold Sg.notDig at h3; simpa using h3
      · exact .inr h
    clear hT hD htb hq hstop HBT hTs
    have HNO : Hid (Sg.numOk D.data.toList = false → res = (0, ⟨#[]⟩, 4)) := Lib.hid fun h => by rw [HR2.out, if_neg (fun q => by rw [h] at q; cases q.2)]
    have HNT : Hid (tb = false → res = (0, ⟨#[]⟩, 4)) := Lib.hid fun h => by rw [HR2.out, if_neg (fun q => by rw [h] at q; cases q.1)]
    have hdl : D.data.toList.length = D.size := rfl
    rcases hstop2 with ⟨hlt, hbt⟩ | hkn
    case' inl =>
      have HBT := Lib.hid hbt
      clear hbt
      go_wp2_with fail
      refine (r1between_any _ _ _ _).mono ?_
      rw [HBT.out]
      rintro e w' ⟨rfl, rfl⟩
      go_wp2_with fail
      go_quiet (fail)
    case' inr =>
      have hnl : ¬ (k : Int) < (n.size : Int) := by omega
      clear hkn
      go_wp2_with fail
      go_quiet (fail)
    all_goals
      rw [← HTE.out, ← HDE.out]
      generalize hwc : World.drewN _ _ = wc
      have HBc : Hid (Below w.heap.size w wc) := Lib.hid (by rw [← hwc]; exact below_drewN HB2.out _)
      have HCW : Hid (wc.cell? ⟨w.heap.size, 0, none⟩ = some (.int .i64 l.periods) ∧ wc.cell? ⟨w.heap.size, 1, none⟩ = some (.slice A0 l.signs.length c0)) := Lib.hid (by rw [← hwc]; exact HCX.out)
      clear hwc
      go_wp2_with fail
      refine (HRG.out _).mono ?_
      rintro e w' ⟨rfl, rfl⟩
      cases tb
      · have HV := Lib.hid (HNT.out rfl)
        go_wp2_with fail
        go_ret3
        exact RetISE.of HV.out HBc.out
      by_cases hd1 : D.data.toList = [49]
      · have HV := Lib.hid (HNO.out (by rw [hd1]; rfl))
        have e1 : D.toList = [49] := by rw [Lx.toList_data]; exact hd1
        clear hd1
        go_wp2_with fail
        go_ret3
        exact RetISE.of HV.out HBc.out
      have HD1 := Lib.hid hd1
      have e1 : (D.toList == [49]) = false := by rw [beq_eq_false_iff_ne, Lx.toList_data]; exact hd1
      clear hd1
      have hD0 : (D.toList.isEmpty = true ∧ D.size = 0) ∨ (D.toList.isEmpty = false ∧ 0 < D.size) := by
        by_cases h : D.data.toList = []
        · exact .inl ⟨by rw [Lx.toList_data, h]; rfl, by rw [← hdl, h]; rfl⟩
        · refine .inr ⟨empty_not h, ?_⟩
          rw [← hdl]
          exact List.length_pos_iff.2 h
      have hb0 : (D.toList.isEmpty = true) ∨ (D.toList.isEmpty = false ∧ ∃ h : 0 < D.size, ((((D[0]'h).toNat : Nat) : Int) == 48) = true) ∨ (D.toList.isEmpty = false ∧ ∃ h : 0 < D.size, ((((D[0]'h).toNat : Nat) : Int) == 48) = false) := by
        rcases hD0 with ⟨h1, -⟩ | ⟨h1, h2⟩
        · exact .inl h1
        · cases h3 : ((((D[0]'h2).toNat : Nat) : Int) == 48)
          · exact .inr (.inr ⟨h1, h2, h3⟩)
          · exact .inr (.inl ⟨h1, h2, h3⟩)
      have HF48 : Hid (∀ h : 0 < D.size, D.data.toList[0]? = some (D[0]'h)) := Lib.hid fun h => Lib.data_getElem? D 0 h
      clear hD0
      rcases hb0 with hb | ⟨hb, hz, hb1⟩ | ⟨hb, hz, hb1⟩
      case' inr.inl =>
        have HV := Lib.hid (HNO.out (by
          have h1 := HF48.out hz
          have h2 : D[0]'hz = 48 := UInt8.toNat_inj.1 (by have h3 := beq_iff_eq.1 hb1; have : (48 : UInt8).toNat = 48 := rfl; omega)
          rw [h2] at h1
          unfold Sg.numOk
          rw [h1]
          simp))
        go_wp2_with fail
        go_ret3
        exact RetISE.of HV.out HBc.out
      all_goals
        have H48 : Hid (¬ D.data.toList[0]? = some 48) := Lib.hid (fun h => by
          first
          | (have h2 := HF48.out hz
             rw [h] at h2
             have h3 : (48 : UInt8) = D[0]'hz := Option.some.inj h2
             rw [← h3] at hb1
             cases hb1)
          | (rw [Lx.toList_data] at hb
             rw [List.isEmpty_iff.1 hb] at h
             cases h))
        go_wp2_with fail
        go_loopg [13] D.size (fun g i wr' => ∃ j : Nat, j ≤ D.size ∧ g = D.size - j ∧ i = .int .i64 j ∧ wr' = wc ∧ (D.data.toList.take j).all Lx.digB = true)
        case atStart => exact ⟨0, Nat.zero_le _, rfl, rfl, rfl, rfl⟩
        case round =>
          obtain ⟨j, hj, rfl, rfl, rfl, hal2⟩ := hrel
          have HAL2 := Lib.hid hal2
          clear hal2
          by_cases hjt : j < D.size
          · have HDJ := Lib.hid (digB_in D[j])
            cases hd : (decide ((48 : Int) ≤ (D[j].toNat : Int)) && decide ((D[j].toNat : Int) ≤ 57))
            · have HV := Lib.hid (HNO.out (by unfold Sg.numOk; rw [not_all_of Lx.digB D j hjt (by rw [HDJ.out, hd])]; rfl))
              have HDD := Lib.hid hd
              clear hd
              go_wp2_with fail
              refine (r1between_any _ _ _ _).mono ?_
              rw [HDD.out]
              rintro e w' ⟨rfl, rfl⟩
              go_wp2_with fail
              go_ret3
              exact RetISE.of HV.out HBc.out
            · have HNX := Lib.hid (show (D.data.toList.take (j + 1)).all Lx.digB = true by rw [take_succ_all Lx.digB D j hjt, HAL2.out, HDJ.out, hd]; rfl)
              have HDD := Lib.hid hd
              clear hd
              go_wp2_with fail
              refine (r1between_any _ _ _ _).mono ?_
              rw [HDD.out]
              rintro e w' ⟨rfl, rfl⟩
              go_wp2_with fail
              go_roundg (D.size - (j + 1))
              case measure => omega
              case rel => exact ⟨j + 1, by omega, rfl, by go_num, rfl, HNX.out⟩
          have HOK : Hid (Sg.numOk D.data.toList = true) := Lib.hid (by
            have h1 := HAL2.out
            rw [List.take_of_length_le (by omega)] at h1
            unfold Sg.numOk
            rw [h1, decide_eq_false HD1.out, decide_eq_false H48.out]
            rfl)
          have HEMP : Hid (Sg.hitB D.data.toList 0 = D.toList.isEmpty) := Lib.hid (by
            unfold Sg.hitB
            rw [Lx.toList_data]
            cases D.data.toList <;> simp)
          obtain ⟨x0, x1⟩ := HCW.out
          go_wp2_with fail
          refine (HBW.out _ HBc.out).mono ?_
          rintro e w3 ⟨vb, rfl, hvb, hb3⟩
          have HB3 := Lib.hid (HBc.out.trans (hb3.mono HBc.out.size))
          have HRB := Lib.hid hvb
          obtain ⟨A, c, rfl, hlc, hc63⟩ := rds_form hvb
          clear hb3 hvb x0 x1
          go_wp2_with fail
          go_loopg [16] q.length (fun g i wr' => ∃ j : Nat, j ≤ q.length ∧ g = q.length - j ∧ i = .int .i64 j ∧ wr' = w3 ∧ ∀ m, m < j → Sg.hitB D.data.toList m = false)
          case atStart => exact ⟨0, Nat.zero_le _, rfl, rfl, rfl, fun m hm => by omega⟩
          case round =>
            obtain ⟨j2, hj2, rfl, rfl, rfl, hno⟩ := hrel
            have HNOH := Lib.hid hno
            clear hno
            by_cases hlt2 : j2 < q.length
            · obtain ⟨e, he⟩ : ∃ e, q[j2]? = some e := ⟨_, List.getElem?_eq_getElem hlt2⟩
              obtain ⟨b, off, rfl, hb2, hcell⟩ := ints_ex HRB.out (by omega)
              have f0 := hcell j2 e he
              have HE := Lib.hid he
              have hkI : (0 : Int) ≤ (j2 : Int) := by omega
              have hkJ : (j2 : Int) < (q.length : Int) := by omega
              have HHIT : Hid (Sg.hitB D.data.toList j2 = true → res = (e, T, 0)) := Lib.hid fun h => by rw [HR2.out, if_pos ⟨trivial, HOK.out⟩]; exact Sg.readAt_hit HOK.out HE.out h
              have HMISS : Hid (Sg.hitB D.data.toList j2 = false → ∀ m, m < j2 + 1 → Sg.hitB D.data.toList m = false) := Lib.hid fun h m hm => by
                by_cases e : m = j2
                · rw [e]; exact h
                · exact HNOH.out m (by omega)
              clear he hcell
              rcases Nat.eq_zero_or_pos j2 with hj0 | hj0
              · have hjE : ((j2 : Int) == 0) = true := by rw [beq_iff_eq]; omega
                have hjP : ¬ (0 : Int) < (j2 : Int) := by omega
                have HJ0 := Lib.hid hj0
                clear hj0
                cases hE : D.toList.isEmpty
                · have HNX := Lib.hid (HMISS.out (by rw [HJ0.out, HEMP.out, hE]))
                  first
                  | (exfalso; rw [hE] at hb; cases hb; done)
                  | (clear hE
                     go_wp2_with fail
                     go_roundg (q.length - (j2 + 1))
                     case measure => omega
                     case rel => exact ⟨j2 + 1, by omega, rfl, by go_num, rfl, HNX.out⟩)
                · have HV := Lib.hid (HHIT.out (by rw [HJ0.out, HEMP.out, hE]))
                  first
                  | (exfalso; rw [hE] at hb; cases hb; done)
                  | (clear hE
                     go_wp2_with fail
                     go_ret3
                     exact RetISE.of HV.out HB3.out)
              · have hjE : ((j2 : Int) == 0) = false := by rw [beq_eq_false_iff_ne]; omega
                have hjP : (0 : Int) < (j2 : Int) := by omega
                have HHB : Hid (Sg.hitB D.data.toList j2 = decide (D.data.toList = Lib.decDigits (j2 + 1))) := Lib.hid (by
                  unfold Sg.hitB
                  rw [decide_eq_false (show ¬ j2 = 0 by omega), decide_eq_true hj0]
                  simp)
                have HDC : Hid (Calls Tryz.prog 55 #[.int .i64 ((j2 : Int) + 1)] wr (fun e w' => e = .returned (.string (Sg.bs (Lib.decDigits (j2 + 1)))) ∧ w' = wr)) := Lib.hid (r1Dec_all (j2 + 1) (j2 + 1) (Nat.le_refl _) (by omega) wr)
                obtain ⟨X, hX⟩ : ∃ X, X = Sg.bs (Lib.decDigits (j2 + 1)) := ⟨_, rfl⟩
                rw [← hX] at HDC
                by_cases hdd : D.data.toList = Lib.decDigits (j2 + 1)
                · have HV := Lib.hid (HHIT.out (by rw [HHB.out, decide_eq_true hdd]))
                  have hc : (D.toList == X.toList) = true := by rw [beq_iff_eq, Lx.toList_data, Lx.toList_data, hX, Sg.bs_list]; exact hdd
                  clear hdd hX hj0
                  go_wp2_with fail
                  refine HDC.out.mono ?_
                  rintro e' w4 ⟨rfl, rfl⟩
                  go_wp2_with fail
                  go_ret3
                  exact RetISE.of HV.out HB3.out
                · have HNX := Lib.hid (HMISS.out (by rw [HHB.out, decide_eq_false hdd]))
                  have hc : (D.toList == X.toList) = false := by rw [beq_eq_false_iff_ne, Lx.toList_data, Lx.toList_data, hX, Sg.bs_list]; exact hdd
                  clear hdd hX hj0
                  go_wp2_with fail
                  refine HDC.out.mono ?_
                  rintro e' w4 ⟨rfl, rfl⟩
                  go_wp2_with fail
                  go_roundg (q.length - (j2 + 1))
                  case measure => omega
                  case rel => exact ⟨j2 + 1, by omega, rfl, by go_num, rfl, HNX.out⟩
            · have HV : Hid (res = (0, ⟨#[]⟩, 3)) := Lib.hid (by rw [HR2.out, if_pos ⟨trivial, HOK.out⟩]; exact Sg.readAt_none HOK.out fun m hm => HNOH.out m (by omega))
              have hkJ : ¬ (j2 : Int) < (q.length : Int) := by omega
              go_wp2_with fail
              go_ret3
              exact RetISE.of HV.out HB3.out
end Go.Proofs.YtkmimjngmfdpmaaGreatDoor
namespace Sg
open Go
def tenDigs : List UInt8 := [48, 49, 50, 51, 52, 53, 54, 55, 56, 57]
theorem ten_dig (b : UInt8) : tenDigs.contains b = Lx.digB b := by
  have h : ∀ n : Fin 256, tenDigs.contains (UInt8.ofNat n.1) = Lx.digB (UInt8.ofNat n.1) := by decide +kernel
  have := h ⟨b.toNat, b.toNat_lt⟩
  simpa using this
/-- the place where the digits begin, or the end -/
def atV (l : List UInt8) : Nat := if Lib.indexAny l tenDigs < 0 then l.length else (Lib.indexAny l tenDigs).toNat
theorem at_facts : ∀ l : List UInt8, atV l ≤ l.length ∧ textOf l = l.take (atV l) ∧ digsOf l = l.drop (atV l)
  | [] => ⟨Nat.le_refl _, rfl, rfl⟩
  | b :: l => by
    obtain ⟨i1, i2, i3⟩ := at_facts l
    have hg := Lib.indexAny_ge tenDigs l
    have hk : atV (b :: l) = if Lx.digB b = true then 0 else atV l + 1 := by
      unfold atV
      rw [Lib.indexAny, ten_dig]
      by_cases h : Lx.digB b = true
      · rw [if_pos h, if_pos h, if_neg (by omega)]; rfl
      · rw [if_neg h, if_neg h]
        by_cases h2 : Lib.indexAny l tenDigs = -1
        · rw [h2]; rfl
        · have h3 : (Lib.indexAny l tenDigs == -1) = false := by rw [beq_eq_false_iff_ne]; exact h2
          have h4 : 0 ≤ Lib.indexAny l tenDigs := by omega
          simp only [h3, Bool.false_eq_true, if_false]
          rw [if_neg (show ¬ Lib.indexAny l tenDigs + 1 < 0 by omega), if_neg (show ¬ Lib.indexAny l tenDigs < 0 by omega)]
          omega
    rw [hk]
    unfold textOf at i2
    unfold digsOf at i3
    unfold textOf digsOf
    rw [List.takeWhile_cons, List.dropWhile_cons]
    have hnd : notDig b = !Lx.digB b := rfl
    rw [hnd]
    by_cases h : Lx.digB b = true
    · rw [if_pos h]
      simp [h]
    · have h' : Lx.digB b = false := by simpa using h
      rw [if_neg h]
      simp only [h', Bool.not_false, if_true, List.take_succ_cons, List.drop_succ_cons, List.length_cons]
      exact ⟨by omega, congrArg (b :: ·) i2, i3⟩
end Sg
namespace Sg
open Go
def valN (acc : Nat) (l : List UInt8) : Nat := l.foldl (fun n b => n * 10 + (b.toNat - 48)) acc
theorem valN_ge : ∀ (l : List UInt8) (acc : Nat), acc ≤ valN acc l
  | [], _ => Nat.le_refl _
  | b :: l, acc => by
    have := valN_ge l (acc * 10 + (b.toNat - 48))
    show acc ≤ valN (acc * 10 + (b.toNat - 48)) l
    omega
theorem dig_range {b : UInt8} (h : Lx.digB b = true) : 48 ≤ b.toNat ∧ b.toNat ≤ 57 := by
  unfold Lx.digB at h
  simpa using h
theorem mag_dig : ∀ (l : List UInt8) (acc : Nat), l.all Lx.digB = true → Lib.parseUint10 acc l = .ok (valN acc l) ∨ (Lib.parseUint10 acc l = .range ∧ 18446744073709551616 ≤ valN acc l)
  | [], acc, _ => .inl rfl
  | b :: l, acc, h => by
    rw [List.all_cons, Bool.and_eq_true] at h
    have hd := dig_range h.1
    have hg := valN_ge l (acc * 10 + (b.toNat - 48))
    have hv : valN acc (b :: l) = valN (acc * 10 + (b.toNat - 48)) l := rfl
    rw [Lib.parseUint10, if_pos hd, hv]
    by_cases h1 : 1844674407370955162 ≤ acc
    · rw [if_pos h1]; exact .inr ⟨rfl, by omega⟩
    · rw [if_neg h1]
      by_cases h2 : 18446744073709551616 ≤ acc * 10 + (b.toNat - 48)
      · rw [if_pos h2]; exact .inr ⟨rfl, by omega⟩
      · rw [if_neg h2]; exact mag_dig l _ h.2
theorem valN_int : ∀ (l : List UInt8) (acc : Nat), l.all Lx.digB = true → ((valN acc l : Nat) : Int) = l.foldl (fun n b => 10 * n + ((b.toNat : Int) - 48)) (acc : Int)
  | [], _, _ => rfl
  | b :: l, acc, h => by
    rw [List.all_cons, Bool.and_eq_true] at h
    have hd := dig_range h.1
    have ih := valN_int l (acc * 10 + (b.toNat - 48)) h.2
    have hv : valN acc (b :: l) = valN (acc * 10 + (b.toNat - 48)) l := rfl
    rw [hv, ih, List.foldl_cons]
    congr 1
    omega
theorem atoi_digs {l : List UInt8} (h0 : l ≠ []) (h : l.all Lx.digB = true) : Lib.atoiAll l = .ok (Lx.digV l) ∨ (Lib.atoiAll l = .range ∧ 9223372036854775808 ≤ Lx.digV l) := by
  have hi := valN_int l 0 h
  have hv : Lx.digV l = ((valN 0 l : Nat) : Int) := hi.symm
  have hm := mag_dig l 0 h
  cases l with
  | nil => exact absurd rfl h0
  | cons b r =>
    have hb := dig_range (show Lx.digB b = true by rw [List.all_cons, Bool.and_eq_true] at h; exact h.1)
    have n2 : ¬ b.toNat = 45 := by omega
    have n3 : ¬ b.toNat = 43 := by omega
    rw [hv]
    unfold Lib.atoiAll
    simp only [n2, n3, or_self, if_false, false_and, not_false_eq_true, true_and]
    unfold Lib.parseMag
    rw [if_neg (by simp)]
    rcases hm with e | ⟨e, hge⟩
    · rw [e]
      simp only
      by_cases hb2 : 9223372036854775808 ≤ valN 0 (b :: r)
      · rw [if_pos hb2]; exact .inr ⟨rfl, by omega⟩
      · rw [if_neg hb2]; exact .inl rfl
    · rw [e]; exact .inr ⟨rfl, by omega⟩
end Sg
namespace Go.Proofs
open Go.Shelf
def Tryz.laysC172_ren : Go.Shelf.Ren := ⟨fun | 172 => 77 | 244 => 110 | 245 => 111 | 247 => 137 | 279 => 138 | 280 => 139 | 281 => 140 | 282 => 141 | 287 => 161 | 316 => 162 | 171 => 54 | 205 => 163 | 321 => 184 | 322 => 185 | 243 => 90 | 246 => 125 | 283 => 152 | 284 => 153 | 285 => 154 | 286 => 155 | 129 => 175 | 317 => 178 | 318 => 179 | 319 => 180 | 320 => 181 | 337 => 191 | 338 => 192 | n => n, fun | 9 => 9 | 3 => 3 | 75 => 97 | 76 => 98 | 4 => 4 | 5 => 5 | 167 => 148 | 37 => 104 | 0 => 0 | 85 => 149 | 2 => 2 | 168 => 151 | 53 => 164 | 175 => 170 | 46 => 147 | 210 => 174 | 127 => 135 | 145 => 191 | 143 => 189 | 21 => 21 | 171 => 163 | 173 => 167 | 212 => 186 | 51 => 184 | 20 => 20 | 213 => 187 | 232 => 207 | 233 => 208 | 80 => 108 | n => n, fun | 15 => 2 | 16 => 3 | 17 => 4 | 18 => 7 | 19 => 8 | n => n⟩
theorem Tryz.laysC172 : Go.Proofs.LaysC.n172 Tryz.prog Tryz.laysC172_ren := {
  mixed := by kernel_rfl
  f129 := Tryz.func175.trans (congrArg some (by kernel_rfl))
  f171 := Tryz.func54.trans (congrArg some (by kernel_rfl))
  f172 := Tryz.func77.trans (congrArg some (by kernel_rfl))
  f205 := Tryz.func163.trans (congrArg some (by kernel_rfl))
  f243 := Tryz.func90.trans (congrArg some (by kernel_rfl))
  f244 := Tryz.func110.trans (congrArg some (by kernel_rfl))
  f245 := Tryz.func111.trans (congrArg some (by kernel_rfl))
  f246 := Tryz.func125.trans (congrArg some (by kernel_rfl))
  f247 := Tryz.func137.trans (congrArg some (by kernel_rfl))
  f279 := Tryz.func138.trans (congrArg some (by kernel_rfl))
  f280 := Tryz.func139.trans (congrArg some (by kernel_rfl))
  f281 := Tryz.func140.trans (congrArg some (by kernel_rfl))
  f282 := Tryz.func141.trans (congrArg some (by kernel_rfl))
  f283 := Tryz.func152.trans (congrArg some (by kernel_rfl))
  f284 := Tryz.func153.trans (congrArg some (by kernel_rfl))
  f285 := Tryz.func154.trans (congrArg some (by kernel_rfl))
  f286 := Tryz.func155.trans (congrArg some (by kernel_rfl))
  f287 := Tryz.func161.trans (congrArg some (by kernel_rfl))
  f316 := Tryz.func162.trans (congrArg some (by kernel_rfl))
  f317 := Tryz.func178.trans (congrArg some (by kernel_rfl))
  f318 := Tryz.func179.trans (congrArg some (by kernel_rfl))
  f319 := Tryz.func180.trans (congrArg some (by kernel_rfl))
  f320 := Tryz.func181.trans (congrArg some (by kernel_rfl))
  f321 := Tryz.func184.trans (congrArg some (by kernel_rfl))
  f322 := Tryz.func185.trans (congrArg some (by kernel_rfl))
  f337 := Tryz.func191.trans (congrArg some (by kernel_rfl))
  f338 := Tryz.func192.trans (congrArg some (by kernel_rfl))
  t0 := Tryz.underlying0
  a0 := Tryz.isAgg0
  z0 := Tryz.sizeOf0
  v0 := Tryz.zeroValue0
  t2 := Tryz.underlying2
  a2 := Tryz.isAgg2
  z2 := Tryz.sizeOf2
  v2 := Tryz.zeroValue2
  t3 := Tryz.underlying3
  a3 := Tryz.isAgg3
  z3 := Tryz.sizeOf3
  v3 := Tryz.zeroValue3
  t4 := Tryz.underlying4
  a4 := Tryz.isAgg4
  z4 := Tryz.sizeOf4
  v4 := Tryz.zeroValue4
  t5 := Tryz.underlying5
  a5 := Tryz.isAgg5
  z5 := Tryz.sizeOf5
  v5 := Tryz.zeroValue5
  t9 := Tryz.underlying9
  a9 := Tryz.isAgg9
  z9 := Tryz.sizeOf9
  v9 := Tryz.zeroValue9
  t20 := Tryz.underlying20
  a20 := Tryz.isAgg20
  z20 := Tryz.sizeOf20
  v20 := Tryz.zeroValue20
  t21 := Tryz.underlying21
  a21 := Tryz.isAgg21
  z21 := Tryz.sizeOf21
  v21 := Tryz.zeroValue21
  t37 := Tryz.underlying104
  a37 := Tryz.isAgg104
  z37 := Tryz.sizeOf104
  v37 := Tryz.zeroValue104
  t46 := Tryz.underlying147
  a46 := Tryz.isAgg147
  z46 := Tryz.sizeOf147
  v46 := Tryz.zeroValue147
  t51 := Tryz.underlying184
  a51 := Tryz.isAgg184
  z51 := Tryz.sizeOf184
  v51 := Tryz.zeroValue184
  t53 := Tryz.underlying164
  a53 := Tryz.isAgg164
  z53 := Tryz.sizeOf164
  v53 := Tryz.zeroValue164
  t75 := Tryz.underlying97
  a75 := Tryz.isAgg97
  z75 := Tryz.sizeOf97
  v75 := Tryz.zeroValue97
  t76 := Tryz.underlying98
  a76 := Tryz.isAgg98
  z76 := Tryz.sizeOf98
  v76 := Tryz.zeroValue98
  t85 := Tryz.underlying149
  a85 := Tryz.isAgg149
  z85 := Tryz.sizeOf149
  v85 := Tryz.zeroValue149
  t127 := Tryz.underlying135
  a127 := Tryz.isAgg135
  z127 := Tryz.sizeOf135
  v127 := Tryz.zeroValue135
  t143 := Tryz.underlying189
  a143 := Tryz.isAgg189
  z143 := Tryz.sizeOf189
  v143 := Tryz.zeroValue189
  t145 := Tryz.underlying191
  a145 := Tryz.isAgg191
  z145 := Tryz.sizeOf191
  v145 := Tryz.zeroValue191
  t167 := Tryz.underlying148
  a167 := Tryz.isAgg148
  z167 := Tryz.sizeOf148
  v167 := Tryz.zeroValue148
  t168 := Tryz.underlying151
  a168 := Tryz.isAgg151
  z168 := Tryz.sizeOf151
  v168 := Tryz.zeroValue151
  t171 := Tryz.underlying163
  a171 := Tryz.isAgg163
  z171 := Tryz.sizeOf163
  v171 := Tryz.zeroValue163
  t173 := Tryz.underlying167
  a173 := Tryz.isAgg167
  z173 := Tryz.sizeOf167
  v173 := Tryz.zeroValue167
  t175 := Tryz.underlying170
  a175 := Tryz.isAgg170
  z175 := Tryz.sizeOf170
  v175 := Tryz.zeroValue170
  t210 := Tryz.underlying174
  a210 := Tryz.isAgg174
  z210 := Tryz.sizeOf174
  v210 := Tryz.zeroValue174
  t212 := Tryz.underlying186
  a212 := Tryz.isAgg186
  z212 := Tryz.sizeOf186
  v212 := Tryz.zeroValue186
  t213 := Tryz.underlying187
  a213 := Tryz.isAgg187
  z213 := Tryz.sizeOf187
  t232 := Tryz.underlying207
  a232 := Tryz.isAgg207
  z232 := Tryz.sizeOf207
  v232 := Tryz.zeroValue207
  t233 := Tryz.underlying208
  a233 := Tryz.isAgg208
  z233 := Tryz.sizeOf208
  v233 := Tryz.zeroValue208
  g15 := by kernel_rfl
  g16 := by kernel_rfl
  g17 := by kernel_rfl
  g18 := by kernel_rfl
  g19 := by kernel_rfl
  t80 := Tryz.underlying108
  a80 := Tryz.isAgg108
  z80 := Tryz.sizeOf108
  v80 := Tryz.zeroValue108
  i0 := by kernel_rfl
  i2 := by kernel_rfl
  i3 := by kernel_rfl
  i4 := by kernel_rfl
  i5 := by kernel_rfl
  i9 := by kernel_rfl
  i20 := by kernel_rfl
  i21 := by kernel_rfl
  i37 := by kernel_rfl
  i46 := by kernel_rfl
  i51 := by kernel_rfl
  i53 := by kernel_rfl
  i75 := by kernel_rfl
  i76 := by kernel_rfl
  i80 := by kernel_rfl
  i85 := by kernel_rfl
  i127 := by kernel_rfl
  i143 := by kernel_rfl
  i145 := by kernel_rfl
  i167 := by kernel_rfl
  i168 := by kernel_rfl
  i171 := by kernel_rfl
  i173 := by kernel_rfl
  i175 := by kernel_rfl
  i210 := by kernel_rfl
  i212 := by kernel_rfl
  i232 := by kernel_rfl
  i233 := by kernel_rfl
  m15 := by kernel_rfl
  m16 := by kernel_rfl
  m17 := by kernel_rfl
  m18 := by kernel_rfl
  m19 := by kernel_rfl
  c0 := by kernel_rfl
  c2 := by kernel_rfl
  c3 := by kernel_rfl
  c4 := by kernel_rfl
  c5 := by kernel_rfl
  c9 := by kernel_rfl
  c20 := by kernel_rfl
  c21 := by kernel_rfl
  c37 := by kernel_rfl
  c46 := by kernel_rfl
  c51 := by kernel_rfl
  c53 := by kernel_rfl
  c75 := by kernel_rfl
  c76 := by kernel_rfl
  c80 := by kernel_rfl
  c85 := by kernel_rfl
  c127 := by kernel_rfl
  c143 := by kernel_rfl
  c145 := by kernel_rfl
  c167 := by kernel_rfl
  c168 := by kernel_rfl
  c171 := by kernel_rfl
  c173 := by kernel_rfl
  c175 := by kernel_rfl
  c210 := by kernel_rfl
  c212 := by kernel_rfl
  c213 := by kernel_rfl
  c232 := by kernel_rfl
  c233 := by kernel_rfl }
open Go.RowKit in
/-- strconv.Atoi, AT EVERY STRING THAT SPELLS AN int ('Lib.atoiAll .. = .ok v'; of whatever length: leading zeros count): v, AND NO ERROR. The world: as it was, or with the one new row that '[]byte(..)' lays. (LAID: no walk: one application.) -/
theorem Tryz.strconv_Atoi_ok (s : ByteArray) (hmax : s.size ≤ 9223372036854775806) (v : Int) (h : Lib.atoiAll s.data.toList = .ok v) (w : World) :
    Calls Tryz.prog 77 #[.string s] w fun e w' => e = .returned (.tuple #[.int .i64 v, .nilIface]) ∧ (w' = w ∨ ∃ t, w' = Lib.bytesWorld w 5 t) := Any.strconv_Atoi_ok Tryz.laysC172 s hmax v h w
open Go.RowKit in
theorem Tryz.strconv_Atoi_syntax_var (s : ByteArray) (hlim : s.size ≤ 281474976710656) (h : Lib.atoiAll s.data.toList = .«syntax») (tp : TypeId) (p : Value) (w : World) (hvar : w.var? Tryz.prog "strconv.ErrSyntax" = some #[.iface tp p]) :
    Calls Tryz.prog 77 #[.string s] w fun e w' => ∃ N, e = .returned (.tuple #[.int .i64 0, .iface 151 (.pointer (some ⟨N, 0, none⟩))]) ∧ w.heap.size ≤ N ∧ w'.heap[N]? = some (.cells #[.string ⟨#[65, 116, 111, 105]⟩, .string s, .iface tp p] 174 (0, 0)) ∧ Below w.heap.size w w' := Any.strconv_Atoi_syntax_var Tryz.laysC172 s hlim h tp p w hvar
open Go.RowKit in
theorem Tryz.strconv_Atoi_range_var (s : ByteArray) (hlim : s.size ≤ 281474976710656) (h : Lib.atoiAll s.data.toList = .range) (tp : TypeId) (p : Value) (w : World) (hvar : w.var? Tryz.prog "strconv.ErrRange" = some #[.iface tp p]) :
    Calls Tryz.prog 77 #[.string s] w fun e w' => ∃ N, e = .returned (.tuple #[.int .i64 (Lib.atoiSat s.data.toList), .iface 151 (.pointer (some ⟨N, 0, none⟩))]) ∧ w.heap.size ≤ N ∧ w'.heap[N]? = some (.cells #[.string ⟨#[65, 116, 111, 105]⟩, .string s, .iface tp p] 174 (0, 0)) ∧ Below w.heap.size w w' := Any.strconv_Atoi_range_var Tryz.laysC172 s hlim h tp p w hvar
end Go.Proofs
namespace Go.Proofs.YtkmimjngmfdpmaaGreatDoor
open Go Go.RowKit

/-- the two errors of strconv are laid -/
def VarLaid (w : World) (x : String) : Prop := ∃ (t : TypeId) (p : Value), w.var? Tryz.prog x = some #[.iface t p]
theorem VarLaid.below {w W : World} {x : String} (h : VarLaid w x) (hb : Below w.heap.size w W) : VarLaid W x := by
  obtain ⟨t, p, h⟩ := h
  refine ⟨t, p, ?_⟩
  unfold World.var? at h ⊢
  cases hg : Tryz.prog.globalNamed x with
  | none => rw [hg] at h; cases h
  | some g =>
    rw [hg] at h
    simp only [Option.bind_some] at h ⊢
    have hlt : g < w.heap.size := by
      rcases Nat.lt_or_ge g w.heap.size with h' | h'
      · exact h'
      · simp [Array.getElem?_eq_none h'] at h
    rw [hb.block g hlt]
    exact h
structure ErrG (w : World) : Prop where
  syn : VarLaid w "strconv.ErrSyntax"
  rng : VarLaid w "strconv.ErrRange"
theorem ErrG.below {w W : World} (h : ErrG w) (hb : Below w.heap.size w W) : ErrG W := ⟨h.syn.below hb, h.rng.below hb⟩
/-- a number and no error, or an error -/
def RetAtoi (s : ByteArray) (w : World) (e : Ending) (w' : World) : Prop := ∃ (x : Int) (ev : Value), e = .returned (.tuple #[.int .i64 x, ev]) ∧ Below w.heap.size w w' ∧
  ((ev = .nilIface ∧ Lib.atoiAll s.data.toList = .ok x) ∨ ((∃ (t : TypeId) (N : Nat), ev = .iface t (.pointer (some ⟨N, 0, none⟩))) ∧ ∀ v, Lib.atoiAll s.data.toList ≠ .ok v))
theorem atoi_any (s : ByteArray) (w : World) (hs : s.size ≤ 1000000) (hg : ErrG w) : Calls Tryz.prog 77 #[.string s] w (RetAtoi s w) := by
  obtain ⟨⟨t1, p1, h1⟩, ⟨t2, p2, h2⟩⟩ := hg
  cases h : Lib.atoiAll s.data.toList with
  | ok v =>
    refine (Tryz.strconv_Atoi_ok s (by omega) v h w).mono ?_
    rintro e w' ⟨rfl, hw⟩
    refine ⟨v, .nilIface, rfl, ?_, .inl ⟨rfl, h⟩⟩
    rcases hw with rfl | ⟨t, rfl⟩
    · exact Below.refl _ _
    · exact Lib.bytesWorld_below _ _ _
  | «syntax» =>
    refine (Tryz.strconv_Atoi_syntax_var s (by omega) h t1 p1 w h1).mono ?_
    rintro e w' ⟨N, rfl, -, -, hb⟩
    exact ⟨_, _, rfl, hb, .inr ⟨⟨_, N, rfl⟩, fun v q => by rw [h] at q; cases q⟩⟩
  | range =>
    refine (Tryz.strconv_Atoi_range_var s (by omega) h t2 p2 w h2).mono ?_
    rintro e w' ⟨N, rfl, -, -, hb⟩
    exact ⟨_, _, rfl, hb, .inr ⟨⟨_, N, rfl⟩, fun v q => by rw [h] at q; cases q⟩⟩
end Go.Proofs.YtkmimjngmfdpmaaGreatDoor
