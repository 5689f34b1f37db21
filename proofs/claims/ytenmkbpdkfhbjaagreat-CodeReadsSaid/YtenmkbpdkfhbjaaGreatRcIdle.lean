/- Leaf functions of the sign lists.; What the program's ParseGloss builds out of the words of a gloss: plain law.; The weight of a form: plain notions.; lexicon.weight: the weight of a valid form.; The reference's Check.; The reference's CheckForm.; Stem, Sounds, Weight of the program and of the reference. Made by gen_sounds.py.; As XRegion, where some edges bind in some modes alone.; As XRegion2, .. -/
import Derived.Test.YtenmkbpdkfhbjaaGreatRcLeaf
import Derived.Deep.DeepCutAuto
import Derived.Deep.LoopGhost
import Derived.Deep.QuietTactic
import Derived.BigQuiet
import Derived.Deep.Light
import Derived.Test.YtenmkbpdkfhbjaaGreatRcShelf
import Derived.Test.YtenmkbpdkfhbjaaGreatRcSgFmtPlain
import Derived.Test.YtenmkbpdkfhbjaaGreatRcFmtPlain
namespace Go.Proofs.YtenmkbpdkfhbjaaGreat
open Go Go.RowKit

theorem upper_in (c : UInt8) : Sg.upper c = (decide ((65 : Int) ≤ (c.toNat : Int)) && decide ((c.toNat : Int) ≤ 90)) := by
 rw [Bool.eq_iff_iff]; simp [Sg.upper, UInt8.le_iff_toNat_le]; omega
theorem digit_in (c : UInt8) : Sg.digit c = (decide ((48 : Int) ≤ (c.toNat : Int)) && decide ((c.toNat : Int) ≤ 57)) := by
 rw [Bool.eq_iff_iff]; simp [Sg.digit, UInt8.le_iff_toNat_le]; omega
theorem alnum_in (c : UInt8) : Sg.alnum c = (((decide ((97 : Int) ≤ (c.toNat : Int)) && decide ((c.toNat : Int) ≤ 122)) || (decide ((65 : Int) ≤ (c.toNat : Int)) && decide ((c.toNat : Int) ≤ 90))) || (decide ((48 : Int) ≤ (c.toNat : Int)) && decide ((c.toNat : Int) ≤ 57))) := by
 rw [Sg.alnum, letter_in, digit_in]
theorem code_of {s : ByteArray} (h0 : 0 < s.size) (h8 : s.size ≤ 8) : Sg.codeB s = (Sg.upper s[0] && s.data.toList.all Sg.alnum) := by
 have hz : s.data.toList[0]? = some s[0] := by rw [List.getElem?_eq_getElem (by simpa using h0)]; rfl
 have h1 : decide (1 ≤ s.size) = true := by simp; omega
 have h2 : decide (s.size ≤ 8) = true := by simp; omega
 unfold Sg.codeB
 rw [hz, h1, h2]
 rfl
theorem code_out {s : ByteArray} (h : ¬ (0 < s.size ∧ s.size ≤ 8)) : Sg.codeB s = false := by
 have : (decide (1 ≤ s.size) && decide (s.size ≤ 8)) = false := by
  rw [Bool.and_eq_false_iff, decide_eq_false_iff_not, decide_eq_false_iff_not]
  omega
 unfold Sg.codeB
 rw [this]
 rfl
set_option maxRecDepth 100000 in
set_option maxHeartbeats 2000000 in
theorem gCode_any (s : ByteArray) (w : World) (hs : s.size ≤ maxLen) : Calls Tryz.prog 58 #[.string s] w (RetB (Sg.codeB s) w) := by
 unfold maxLen at hs
 by_cases hl : 0 < s.size ∧ s.size ≤ 8
 ·obtain ⟨h0, h8⟩ := hl
  have HC := Lib.hid (code_of h0 h8)
  have HU := Lib.hid (upper_in s[0])
  have i1 : ¬ (s.size : Int) < 1 := by omega
  have i2 : ¬ 8 < (s.size : Int) := by omega
  have i3 : (0 : Int) < (s.size : Int) := by omega
  by_cases hu : (65 : Int) ≤ (s[0].toNat : Int) ∧ (s[0].toNat : Int) ≤ 90
  ·obtain ⟨hu1, hu2⟩ := hu
   have HU1 : Hid (Sg.upper s[0] = true) := Lib.hid (by rw [HU.out]; simp; omega)
   have hu1' : ¬ (s[0].toNat : Int) < 65 := by omega
   have hu2' : ¬ 90 < (s[0].toNat : Int) := by omega
   go_enter Tryz.func58, Tryz.ntmps58
   go_wp2_with fail
   go_loop [3] (fun i => ∃ k : Nat, k ≤ s.size ∧ i = .int .i64 k ∧ (s.data.toList.take k).all Sg.alnum = true) (fun i => s.size - (intOf i).toNat)
   case atStart => exact ⟨0, Nat.zero_le _, rfl, rfl⟩
   case round =>
    obtain ⟨k, hk, rfl, hal⟩ := hrel
    have HAL := Lib.hid hal
    clear hal
    by_cases hlt : k < s.size
    ·have HN := Lib.hid (take_succ_all Sg.alnum s k hlt)
     have HA := Lib.hid (alnum_in s[k])
     go_upto_region 7 with fail
     go_cut [54] (fun t wc => t = .bool (!Sg.alnum s[k]) ∧ wc = w)
     case first =>
      go_wp2_with fail
      all_goals
       go_meet
       go_light
       refine ⟨congrArg Value.bool ?_, rfl⟩
       rw [HA.out]
       rw [Bool.eq_iff_iff]
       simp [*]
       try omega
     case rest =>
      obtain ⟨rfl, rfl⟩ := hcut
      cases hA : Sg.alnum s[k]
      ·have HF : Hid (Sg.codeB s = false) := Lib.hid (by rw [HC.out, not_all_of Sg.alnum s k hlt hA]; simp)
       clear hA
       go_wp2_with fail
       go_ret
       exact ⟨ret_bool HF.out.symm, rfl⟩
      ·have HY := Lib.hid hA
       clear hA
       go_wp2_with fail
       refine ⟨⟨k + 1, by omega, by go_num, by rw [HN.out, HAL.out, HY.out]; rfl⟩, ?_⟩
       simp [intOf]; omega
    ·have HT : Hid (Sg.codeB s = true) := Lib.hid (by
      have := HAL.out
      rw [List.take_of_length_le (by simp; omega)] at this
      rw [HC.out, HU1.out, this]; rfl)
     go_wp2_with fail
     go_ret
     exact ⟨ret_bool HT.out.symm, rfl⟩
  ·have HF : Hid (Sg.codeB s = false) := Lib.hid (by
    have : Sg.upper s[0] = false := by rw [HU.out, Bool.and_eq_false_iff, decide_eq_false_iff_not, decide_eq_false_iff_not]; omega
    rw [HC.out, this]; rfl)
   have hor : (s[0].toNat : Int) < 65 ∨ (¬ (s[0].toNat : Int) < 65 ∧ 90 < (s[0].toNat : Int)) := by omega
   clear hu
   rcases hor with hu | ⟨hu, hu'⟩
   all_goals
    go_enter Tryz.func58, Tryz.ntmps58
    go_wp2_with fail
    go_ret
    exact ⟨ret_bool HF.out.symm, rfl⟩
 ·have HF := Lib.hid (code_out hl)
  have hor : (s.size : Int) < 1 ∨ (¬ (s.size : Int) < 1 ∧ 8 < (s.size : Int)) := by omega
  clear hl
  rcases hor with hu | ⟨hu, hu'⟩
  all_goals
   go_enter Tryz.func58, Tryz.ntmps58
   go_wp2_with fail
   go_ret
   exact ⟨ret_bool HF.out.symm, rfl⟩

theorem textC_in (kind : Int) (c : UInt8) : Sg.textC kind c = ((decide ((97 : Int) ≤ (c.toNat : Int)) && decide ((c.toNat : Int) ≤ 122)) || (!decide (kind = 3) && (decide ((65 : Int) ≤ (c.toNat : Int)) && decide ((c.toNat : Int) ≤ 90)))) := by
 rw [Sg.textC, small_in, upper_in]
theorem text_of {kind : Int} {s : ByteArray} (h : 0 < s.size ∧ s.size ≤ 8) : Sg.textB kind s = s.data.toList.all (Sg.textC kind) := by
 have h1 : decide (1 ≤ s.size) = true := by simp; omega
 have h2 : decide (s.size ≤ 8) = true := by simp; omega
 unfold Sg.textB
 rw [h1, h2]
 rfl
theorem text_out {kind : Int} {s : ByteArray} (h : ¬ (0 < s.size ∧ s.size ≤ 8)) : Sg.textB kind s = false := by
 have : (decide (1 ≤ s.size) && decide (s.size ≤ 8)) = false := by
  rw [Bool.and_eq_false_iff, decide_eq_false_iff_not, decide_eq_false_iff_not]
  omega
 unfold Sg.textB
 rw [this]
 rfl
theorem text_class {s : ByteArray} : s.data.toList.all (Sg.textC 3) = Lx.allS s := by
 unfold Lx.allS
 congr 1
 funext c
 simp [Sg.textC]
theorem text_free {kind : Int} (h : kind ≠ 3) {s : ByteArray} : s.data.toList.all (Sg.textC kind) = Lx.allL s := by
 unfold Lx.allL
 congr 1
 funext c
 rw [Sg.textC, decide_eq_false h]
 simp [Lx.small, Sg.upper, Lx.letter]
set_option maxRecDepth 100000 in
set_option maxHeartbeats 2000000 in
theorem gText_any (kind : Int) (s : ByteArray) (w : World) (hs : s.size ≤ maxLen) : Calls Tryz.prog 82 #[.int .i64 kind, .string s] w (RetB (Sg.textB kind s) w) := by
 unfold maxLen at hs
 by_cases hl : 0 < s.size ∧ s.size ≤ 8
 ·have HC := Lib.hid (text_of (kind := kind) hl)
  obtain ⟨h0, h8⟩ := hl
  have i1 : ¬ (s.size : Int) < 1 := by omega
  have i2 : ¬ 8 < (s.size : Int) := by omega
  go_enter Tryz.func82, Tryz.ntmps82
  go_wp2_with fail
  go_loop [5] (fun i => ∃ k : Nat, k ≤ s.size ∧ i = .int .i64 k ∧ (s.data.toList.take k).all (Sg.textC kind) = true) (fun i => s.size - (intOf i).toNat)
  case atStart => exact ⟨0, Nat.zero_le _, rfl, rfl⟩
  case round =>
   obtain ⟨k, hk, rfl, hal⟩ := hrel
   have HAL := Lib.hid hal
   clear hal
   by_cases hlt : k < s.size
   ·have HN := Lib.hid (take_succ_all (Sg.textC kind) s k hlt)
    have HA := Lib.hid (textC_in kind s[k])
    go_upto_region 7 with fail
    go_cut [42] (fun t wc => t = .bool (!Sg.textC kind s[k]) ∧ wc = w)
    case first =>
     by_cases hk3 : kind = 3
     ·subst hk3
      go_wp2_with fail
      all_goals
       go_meet
       go_light
       refine ⟨congrArg Value.bool ?_, rfl⟩
       rw [HA.out]
       rw [Bool.eq_iff_iff]
       simp [*]
       try omega
     ·have hk4 : (kind != 3) = true := by rw [bne_iff_ne]; exact hk3
      go_wp2_with fail
      all_goals
       go_meet
       go_light
       refine ⟨congrArg Value.bool ?_, rfl⟩
       rw [HA.out]
       rw [Bool.eq_iff_iff]
       simp [*]
       try omega
    case rest =>
     obtain ⟨rfl, rfl⟩ := hcut
     cases hA : Sg.textC kind s[k]
     ·have HF : Hid (Sg.textB kind s = false) := Lib.hid (by rw [HC.out, not_all_of (Sg.textC kind) s k hlt hA])
      clear hA
      go_wp2_with fail
      go_ret
      exact ⟨ret_bool HF.out.symm, rfl⟩
     ·have HY := Lib.hid hA
      clear hA
      go_wp2_with fail
      refine ⟨⟨k + 1, by omega, by go_num, by rw [HN.out, HAL.out, HY.out]; rfl⟩, ?_⟩
      simp [intOf]; omega
   ·have HT : Hid (Sg.textB kind s = true) := Lib.hid (by
     have := HAL.out
     rw [List.take_of_length_le (by simp; omega)] at this
     rw [HC.out, this])
    go_wp2_with fail
    go_ret
    exact ⟨ret_bool HT.out.symm, rfl⟩
 ·have HF := Lib.hid (text_out (kind := kind) hl)
  have hor : (s.size : Int) < 1 ∨ (¬ (s.size : Int) < 1 ∧ 8 < (s.size : Int)) := by omega
  clear hl
  rcases hor with hu | ⟨hu, hu'⟩
  all_goals
   go_enter Tryz.func82, Tryz.ntmps82
   go_wp2_with fail
   go_ret
   exact ⟨ret_bool HF.out.symm, rfl⟩
set_option maxRecDepth 100000 in
set_option maxHeartbeats 2000000 in
theorem r1Right_any (kind : Int) (s : ByteArray) (w : World) (hs : s.size ≤ maxLen) : Calls Tryz.prog 87 #[.int .i64 kind, .string s] w (RetB (Sg.textB kind s) w) := by
 have hs' := hs
 unfold maxLen at hs'
 by_cases hl : 0 < s.size ∧ s.size ≤ 8
 ·have HC := Lib.hid (text_of (kind := kind) hl)
  obtain ⟨h0, h8⟩ := hl
  have i1 : ¬ (s.size : Int) < 1 := by omega
  have i2 : ¬ 8 < (s.size : Int) := by omega
  by_cases hk : kind = 3
  ·subst hk
   have HT : Hid (Sg.textB 3 s = Lx.allS s) := Lib.hid (by rw [HC.out, text_class])
   go_enter Tryz.func87, Tryz.ntmps87
   go_wp2_with fail
   refine (r1Small_any s _ hs).mono ?_
   rintro e w' ⟨rfl, rfl⟩
   go_wp2_with fail
   go_ret
   exact ⟨ret_bool HT.out.symm, rfl⟩
  ·have HT : Hid (Sg.textB kind s = Lx.allL s) := Lib.hid (by rw [HC.out, text_free hk])
   go_enter Tryz.func87, Tryz.ntmps87
   go_wp2_with fail
   refine (r1Sounds_any s _ hs).mono ?_
   rintro e w' ⟨rfl, rfl⟩
   go_wp2_with fail
   go_ret
   exact ⟨ret_bool HT.out.symm, rfl⟩
 ·have HF := Lib.hid (text_out (kind := kind) hl)
  have hor : (s.size : Int) < 1 ∨ (¬ (s.size : Int) < 1 ∧ 8 < (s.size : Int)) := by omega
  clear hl
  rcases hor with hu | ⟨hu, hu'⟩
  all_goals
   go_enter Tryz.func87, Tryz.ntmps87
   go_wp2_with fail
   go_ret
   exact ⟨ret_bool HF.out.symm, rfl⟩
set_option maxRecDepth 100000 in
set_option maxHeartbeats 2000000 in
theorem r1Code_any (s : ByteArray) (w : World) (hs : s.size ≤ maxLen) : Calls Tryz.prog 63 #[.string s] w (RetB (Sg.codeB s) w) := by
 unfold maxLen at hs
 by_cases hl : 0 < s.size ∧ s.size ≤ 8
 ·obtain ⟨h0, h8⟩ := hl
  have HC := Lib.hid (code_of h0 h8)
  have HU := Lib.hid (upper_in s[0])
  have i1 : ¬ (s.size : Int) < 1 := by omega
  have i2 : ¬ 8 < (s.size : Int) := by omega
  have i3 : (0 : Int) < (s.size : Int) := by omega
  cases hu : (decide ((65 : Int) ≤ (s[0].toNat : Int)) && decide ((s[0].toNat : Int) ≤ 90))
  ·have HF : Hid (Sg.codeB s = false) := Lib.hid (by rw [HC.out, HU.out, hu]; rfl)
   have H1 := Lib.hid hu
   clear hu
   go_enter Tryz.func63, Tryz.ntmps63
   go_wp2_with fail
   refine (r1between_any _ _ _ _).mono ?_
   rw [H1.out]
   rintro e w' ⟨rfl, rfl⟩
   go_wp2_with fail
   go_ret
   exact ⟨ret_bool HF.out.symm, rfl⟩
  ·have HU1 := Lib.hid (HU.out.trans hu)
   have H0 := Lib.hid hu
   clear hu
   go_enter Tryz.func63, Tryz.ntmps63
   go_wp2_with fail
   refine (r1between_any _ _ _ _).mono ?_
   rw [H0.out]
   rintro e w' ⟨rfl, rfl⟩
   go_wp2_with fail
   go_loop [3] (fun i => ∃ k : Nat, k ≤ s.size ∧ i = .int .i64 k ∧ (s.data.toList.take k).all Sg.alnum = true) (fun i => s.size - (intOf i).toNat)
   case atStart => exact ⟨0, Nat.zero_le _, rfl, rfl⟩
   case round =>
    obtain ⟨k, hk, rfl, hal⟩ := hrel
    have HAL := Lib.hid hal
    clear hal
    by_cases hlt : k < s.size
    ·have HN := Lib.hid (take_succ_all Sg.alnum s k hlt)
     have HA := Lib.hid (alnum_in s[k])
     cases h1 : (decide ((97 : Int) ≤ (s[k].toNat : Int)) && decide ((s[k].toNat : Int) ≤ 122))
     ·cases h2 : (decide ((65 : Int) ≤ (s[k].toNat : Int)) && decide ((s[k].toNat : Int) ≤ 90))
      ·cases h3 : (decide ((48 : Int) ≤ (s[k].toNat : Int)) && decide ((s[k].toNat : Int) ≤ 57))
       ·have HF : Hid (Sg.codeB s = false) := Lib.hid (by rw [HC.out, not_all_of Sg.alnum s k hlt (by rw [HA.out, h1, h2, h3]; rfl)]; simp)
        have H1 := Lib.hid h1
        have H2 := Lib.hid h2
        have H3 := Lib.hid h3
        clear h1 h2 h3
        go_wp2_with fail
        refine (r1between_any _ _ _ _).mono ?_
        rw [H1.out]
        rintro e w' ⟨rfl, rfl⟩
        go_wp2_with fail
        refine (r1between_any _ _ _ _).mono ?_
        rw [H2.out]
        rintro e w' ⟨rfl, rfl⟩
        go_wp2_with fail
        refine (r1between_any _ _ _ _).mono ?_
        rw [H3.out]
        rintro e w' ⟨rfl, rfl⟩
        go_wp2_with fail
        go_ret
        exact ⟨ret_bool HF.out.symm, rfl⟩
       ·have H1 := Lib.hid h1
        have H2 := Lib.hid h2
        have H3 := Lib.hid h3
        clear h1 h2 h3
        go_wp2_with fail
        refine (r1between_any _ _ _ _).mono ?_
        rw [H1.out]
        rintro e w' ⟨rfl, rfl⟩
        go_wp2_with fail
        refine (r1between_any _ _ _ _).mono ?_
        rw [H2.out]
        rintro e w' ⟨rfl, rfl⟩
        go_wp2_with fail
        refine (r1between_any _ _ _ _).mono ?_
        rw [H3.out]
        rintro e w' ⟨rfl, rfl⟩
        go_wp2_with fail
        refine ⟨⟨k + 1, by omega, by go_num, by rw [HN.out, HAL.out, HA.out, H1.out, H2.out, H3.out]; rfl⟩, ?_⟩
        simp [intOf]; omega
      ·have H1 := Lib.hid h1
       have H2 := Lib.hid h2
       clear h1 h2
       go_wp2_with fail
       refine (r1between_any _ _ _ _).mono ?_
       rw [H1.out]
       rintro e w' ⟨rfl, rfl⟩
       go_wp2_with fail
       refine (r1between_any _ _ _ _).mono ?_
       rw [H2.out]
       rintro e w' ⟨rfl, rfl⟩
       go_wp2_with fail
       refine ⟨⟨k + 1, by omega, by go_num, by rw [HN.out, HAL.out, HA.out, H1.out, H2.out]; rfl⟩, ?_⟩
       simp [intOf]; omega
     ·have H1 := Lib.hid h1
      clear h1
      go_wp2_with fail
      refine (r1between_any _ _ _ _).mono ?_
      rw [H1.out]
      rintro e w' ⟨rfl, rfl⟩
      go_wp2_with fail
      refine ⟨⟨k + 1, by omega, by go_num, by rw [HN.out, HAL.out, HA.out, H1.out]; rfl⟩, ?_⟩
      simp [intOf]; omega
    ·have HT : Hid (Sg.codeB s = true) := Lib.hid (by
      have := HAL.out
      rw [List.take_of_length_le (by simp; omega)] at this
      rw [HC.out, HU1.out, this]; rfl)
     go_wp2_with fail
     go_ret
     exact ⟨ret_bool HT.out.symm, rfl⟩
 ·have HF := Lib.hid (code_out hl)
  have hor : (s.size : Int) < 1 ∨ (¬ (s.size : Int) < 1 ∧ 8 < (s.size : Int)) := by omega
  clear hl
  rcases hor with hu | ⟨hu, hu'⟩
  all_goals
   go_enter Tryz.func63, Tryz.ntmps63
   go_wp2_with fail
   go_ret
   exact ⟨ret_bool HF.out.symm, rfl⟩
end Go.Proofs.YtenmkbpdkfhbjaaGreat
namespace Go.Proofs.YtenmkbpdkfhbjaaGreat
open Go.RowKit

theorem Lx.bytes_eq {a b : ByteArray} (h : a.data.toList = b.data.toList) : a = b := by
 have e : a.data = b.data := Array.toList_inj.1 h
 cases a; cases b; simp only at e; rw [e]
theorem Lx.toList_data (b : ByteArray) : b.toList = b.data.toList := by
 have h : ∀ (k i : Nat) (acc : List UInt8), b.size - i ≤ k → i ≤ b.size → ByteArray.toList.loop b i acc = acc.reverse ++ b.data.toList.drop i := by
  intro k
  induction k with
  | zero =>
   intro i acc hk hi
   rw [ByteArray.toList.loop, if_neg (by omega), List.drop_eq_nil_of_le (by show b.size ≤ i; omega), List.append_nil]
  | succ k ih =>
   intro i acc hk hi
   rw [ByteArray.toList.loop]
   by_cases hlt : i < b.size
   ·have hb : i < b.data.toList.length := hlt
    have e : b.get! i = b.data.toList[i]'hb := by
     have hb' : i < b.data.size := hlt
     show b.data[i]! = _
     rw [getElem!_pos b.data i hb', Array.getElem_toList]
    rw [if_pos hlt, ih (i + 1) _ (by omega) (by omega), List.reverse_cons, List.append_assoc, List.drop_eq_getElem_cons hb, e]
    rfl
   ·rw [if_neg hlt, List.drop_eq_nil_of_le (by show b.size ≤ i; omega), List.append_nil]
 have := h b.size 0 [] (by omega) (Nat.zero_le _)
 simpa [ByteArray.toList] using this
theorem Lx.toList_ne {a b : ByteArray} (h : a ≠ b) : (a.toList == b.toList) = false := by
 rw [beq_eq_false_iff_ne]
 intro e
 rw [Lx.toList_data, Lx.toList_data] at e
 exact h (Lx.bytes_eq e)
end Go.Proofs.YtenmkbpdkfhbjaaGreat
namespace Lx
end Lx
namespace Go.Proofs.YtenmkbpdkfhbjaaGreat
open Go.RowKit


end Go.Proofs.YtenmkbpdkfhbjaaGreat
namespace Go.Proofs.YtenmkbpdkfhbjaaGreat
open Go.RowKit

theorem below_drewN {B : Nat} {a w : World} (h : Below B a w) (n : Nat) : Below B a (w.drewN n) := ⟨h.os, h.tape, h.output, h.size, h.block⟩


end Go.Proofs.YtenmkbpdkfhbjaaGreat
namespace Go.Proofs.YtenmkbpdkfhbjaaGreat
open Go.RowKit


end Go.Proofs.YtenmkbpdkfhbjaaGreat
namespace Go.Proofs.YtenmkbpdkfhbjaaGreat
open Go.RowKit

theorem start_res' (w : World) (A B : Obj) : ((w.alloc A).alloc B).heap[w.heap.size + 1]? = some B := by
 have q := heap_alloc_new (w.alloc A) B
 have hs : (w.alloc A).heap.size = w.heap.size + 1 := by simp
 rw [hs] at q
 exact q









end Go.Proofs.YtenmkbpdkfhbjaaGreat
namespace Go.Proofs.YtenmkbpdkfhbjaaGreat
open Go Go.RowKit

section
variable {P : Program} {ops : Array Oper} {Q : Exit → Act → World → Prop} {md : Region.Mode}
def tidyOps2 (md : Region.Mode) (ops : Array Oper) : Bool := (List.range ops.size).all fun i => ((ops[i]?).map fun o => o.after.all fun e => decide (e.on < i) || !Region.binds md e).getD true

theorem all_of_ready2 {l : Array Bool} (ht : tidyOps2 md ops = true) (hs : l.size = ops.size) (h : Region.ready md ops l = []) : ∀ i, i < ops.size → l.getD i true = true := by
 intro i
 induction i using Nat.strongRecOn with
 | _ i ih =>
  intro hi
  by_cases hd : l.getD i true = true
  ·exact hd
  ·exfalso
   have hm : i ∈ Region.ready md ops l := by
    unfold Region.ready
    rw [List.mem_filter, List.mem_range]
    refine ⟨hi, ?_⟩
    have ho : ops[i]? = some ops[i] := Array.getElem?_eq_getElem hi
    have hd' : l.getD i true = false := by simpa using hd
    rw [hd', ho]
    show (true && _) = true
    rw [Bool.true_and, Option.map_some, Option.getD_some, Array.all_eq_true']
    intro e he
    have h3 : e.on < i ∨ Region.binds md e = false := by
     have h1 := List.all_eq_true.1 ht i (List.mem_range.2 hi)
     rw [ho] at h1
     simp only [Option.map_some, Option.getD_some] at h1
     simpa using Array.all_eq_true'.1 h1 e he
    rcases h3 with hlt | hnb
    ·have := ih e.on hlt (by omega)
     have h2 : l.getD e.on false = true := by
      simp [Array.getD, hs, (by omega : e.on < ops.size)] at this ⊢
      exact this
     simp [h2]
    ·simp [hnb]
   rw [h] at hm
   cases hm

theorem wpAny_inv2 (I : Array Bool → Act → World → Prop) (ht : tidyOps2 md ops = true)
  (hstep : ∀ l a w i, l.size = ops.size → I l a w → i ∈ Region.ready md ops l → wpOp P ops Q i (I (l.setIfInBounds i true)) a w)
  (hend : ∀ l a w, l.size = ops.size → I l a w → (∀ i, i < ops.size → l.getD i true = true) → Q .normal a w) :
  ∀ (fuel : Nat) (l : Array Bool) (a : Act) (w : World), l.size = ops.size → l.toList.count false ≤ fuel → I l a w → wpAny P md ops Q fuel l a w := by
 intro fuel
 induction fuel with
 | zero =>
  intro l a w hs hc hI
  have hr : Region.ready md ops l = [] := by
   rw [List.eq_nil_iff_forall_not_mem]
   intro i hi
   have := count_set (mem_ready hi).2.1
   omega
  exact ⟨hr, hend l a w hs hI (all_of_ready2 ht hs hr)⟩
 | succ fuel ih =>
  intro l a w hs hc hI
  refine ⟨fun hr => hend l a w hs hI (all_of_ready2 ht hs hr), fun i hi => ?_⟩
  have hcs := count_set (mem_ready hi).2.1
  exact wpOp_mono (fun a' w' h' => ih _ a' w' (by simpa using hs) (by omega) h') (hstep l a w i hs hI hi)

theorem wp_region_inv2 {id : Nat} {l : List Oper} {a : Act} {w : World} {Q : Exit → Act → World → Prop} (I : Array Bool → Act → World → Prop) (hm : P.follows .mixedOrders = true) (ht : tidyOps2 .any l.toArray = true)
  (h0 : I (Array.replicate l.length false) a w.drew)
  (hstep : ∀ d a w i, d.size = l.length → I d a w → i ∈ Region.ready .any l.toArray d → wpOp P l.toArray Q i (I (d.setIfInBounds i true)) a w)
  (hend : ∀ d a w, d.size = l.length → I d a w → (∀ i, i < l.length → d.getD i true = true) → Q .normal a w) :
  (Code.region id l.toArray true).wp P Q a w := by
 refine wp_region_any hm ?_
 refine wpAny_inv2 I ht (fun d a w i hs => hstep d a w i (by simpa using hs)) (fun d a w hs hI hh => hend d a w (by simpa using hs) hI (by simpa using hh)) _ _ _ _ (by simp) ?_ ?_
 ·simp
 ·simpa using h0

end
end Go.Proofs.YtenmkbpdkfhbjaaGreat
namespace Go.Proofs.YtenmkbpdkfhbjaaGreat
open Go Go.RowKit
theorem wp_region_inv2T {P : Program} {id : Nat} {l : List Oper} {t : Array Value} {df : List Deferred} {w : World} {Q : Exit → Act → World → Prop} (I : Array Value → Array Bool → Act → World → Prop) (hm : P.follows .mixedOrders = true) (ht : tidyOps2 .any l.toArray = true)
  (h0 : I t (Array.replicate l.length false) ⟨t, df⟩ w.drew)
  (hstep : ∀ t0 d a w i, d.size = l.length → I t0 d a w → i ∈ Region.ready .any l.toArray d → wpOp P l.toArray Q i (I t0 (d.setIfInBounds i true)) a w)
  (hend : ∀ d a w, d.size = l.length → I t d a w → (∀ i, i < l.length → d.getD i true = true) → Q .normal a w) :
  (Code.region id l.toArray true).wp P Q ⟨t, df⟩ w := wp_region_inv2 (I t) hm ht h0 (hstep t) hend
end Go.Proofs.YtenmkbpdkfhbjaaGreat
namespace Go.Proofs.YtenmkbpdkfhbjaaGreat
open Go Go.RowKit
theorem rs {t : Array Value} {k m : Nat} {u v : Value} (h : t[k]? = some v) (f : k ≠ m := by decide) : (t.setIfInBounds m u)[k]? = some v := (set_other f).trans h
theorem rp {d : Array Bool} {i j : Nat} {t : Array Value} {k m : Nat} {u v : Value} (hi : i < d.size) (h : dn d j → t[k]? = some v) (e : j ≠ i := by decide) (f : k ≠ m := by decide) : dn (d.setIfInBounds i true) j → (t.setIfInBounds m u)[k]? = some v :=
 fun hj => (set_other f).trans (h (dn_of hi hj e))
theorem rn {d : Array Bool} {i j : Nat} {P : Prop} (hi : i < d.size) (h : dn d j → P) (e : j ≠ i := by decide) : dn (d.setIfInBounds i true) j → P := fun hj => h (dn_of hi hj e)
theorem rk {t T0 : Array Value} {l : List Nat} {m : Nat} {u : Value} (h : ∀ i, i ∉ l → t[i]? = T0[i]?) (hm : m ∈ l := by decide) : ∀ i, i ∉ l → (t.setIfInBounds m u)[i]? = T0[i]? :=
 fun i hi => (set_other (fun e => hi (by rw [e]; exact hm))).trans (h i hi)
def Held (t : Array Value) : List (Nat × Value) → Prop
 | [] => True
 | p :: r => t[p.1]? = some p.2 ∧ Held t r
theorem held_set : ∀ (l : List (Nat × Value)) (t A : Array Value), A.size = t.size → (∀ i, i ∉ l.map (·.1) → A[i]? = t[i]?) → Held t l → l.foldl (fun a p => a.setIfInBounds p.1 p.2) A = t
 | [], t, A, _, hk, _ => by
  refine Array.ext_getElem? fun i => ?_
  exact hk i (by simp)
 | p :: r, t, A, hs, hk, hw => by
  rw [List.foldl_cons]
  refine held_set r t _ (by simpa using hs) (fun i hi => ?_) hw.2
  by_cases e : i = p.1
  ·subst e
   have hlt := (Array.getElem?_eq_some_iff.1 hw.1).1
   rw [set_same (by omega), hw.1]
  ·rw [set_other e]
   exact hk i (by simp only [List.map_cons, List.mem_cons, not_or]; exact ⟨e, hi⟩)
theorem frame_eq {t T0 : Array Value} {wl : List Nat} (l : List (Nat × Value)) (hs : t.size = T0.size) (hk : ∀ i, i ∉ wl → t[i]? = T0[i]?) (hm : wl.all (fun i => l.any fun p => p.1 == i) = true) (hw : Held t l) : t = l.foldl (fun a p => a.setIfInBounds p.1 p.2) T0 := by
 refine (held_set l t T0 hs.symm (fun i hi => (hk i (fun h => hi ?_)).symm) hw).symm
 have := List.all_eq_true.1 hm i h
 rw [List.any_eq_true] at this
 obtain ⟨p, hp, e⟩ := this
 have e' : p.1 = i := by simpa using e
 rw [← e']
 exact List.mem_map_of_mem hp
end Go.Proofs.YtenmkbpdkfhbjaaGreat
namespace Go.Proofs.YtenmkbpdkfhbjaaGreat
open Go Go.RowKit

theorem wpOp_idle {P : Program} {ops : Array Oper} {Q : Exit → Act → World → Prop} {i : Nat} {o : Oper} {K : Act → World → Prop} {a : Act} {w : World} (ho : ops[i]? = some o) (hg : Region.wanted o (yielded ops a.tmps) = false) (h : K (a.put o.dst undef) w) : wpOp P ops Q i K a w := by
 unfold wpOp
 rw [ho]
 simp only [hg]
 exact h
theorem unwanted_of {ops : Array Oper} {t : Array Value} {o : Oper} {g d : Nat} {b c : Bool} (hg : o.guard = some (g, b)) (hx : (ops[g]?).bind (·.dst) = some d) (h : t[d]? = some (.bool c)) (hb : c ≠ b) : Region.wanted o (yielded ops t) = false := by
 simp [Region.wanted, hg, yielded, hx, h, hb]
end Go.Proofs.YtenmkbpdkfhbjaaGreat
