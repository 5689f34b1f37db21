/- Leaf functions of the sign lists.; What the program's ParseGloss builds out of the words of a gloss: plain law. The weight of a form: plain notions. lexicon.weight: the weight of a valid form. The reference's Check. The reference's CheckForm. Stem, Sounds, Weight of the program and of the reference. Made by gen_sounds.py. -/
import Derived.Test.YtkmimjngmfdpmaaGreatDoorMpLeaf
import Derived.Deep.DeepCutAuto
import Derived.Deep.LoopGhost
import Derived.Deep.QuietTactic
import Derived.BigQuiet
import Derived.Deep.Light
import Derived.Test.YtkmimjngmfdpmaaGreatDoorMpRegion
import Derived.Test.YtkmimjngmfdpmaaGreatDoorMpTextPlain
import Derived.Test.YtkmimjngmfdpmaaGreatDoorMpBegin
namespace Go.Proofs.YtkmimjngmfdpmaaGreatDoor
open Go Go.RowKit

theorem upper_in (c : UInt8) : Sg.upper c = (decide ((65 : Int) ≤ (c.toNat : Int)) && decide ((c.toNat : Int) ≤ 90)) := by
  rw [Bool.eq_iff_iff]; simp [Sg.upper, UInt8.le_iff_toNat_le]; omega
theorem digit_in (c : UInt8) : Sg.digit c = (decide ((48 : Int) ≤ (c.toNat : Int)) && decide ((c.toNat : Int) ≤ 57)) := by
  rw [Bool.eq_iff_iff]; simp [Sg.digit, UInt8.le_iff_toNat_le]; omega
theorem alnum_in (c : UInt8) : Sg.alnum c = (((decide ((97 : Int) ≤ (c.toNat : Int)) && decide ((c.toNat : Int) ≤ 122)) || (decide ((65 : Int) ≤ (c.toNat : Int)) && decide ((c.toNat : Int) ≤ 90))) || (decide ((48 : Int) ≤ (c.toNat : Int)) && decide ((c.toNat : Int) ≤ 57))) := by
  rw [Sg.alnum, letter_in, digit_in]
theorem code_of {s : ByteArray} (h0 : 0 < s.size) (h8 : s.size ≤ 8) : Sg.codeB s = (Sg.upper s[0] && s.data.toList.all Sg.alnum) := by
  have hz : s.data.toList[0]? = some s[0] := by rw [List.getElem?_eq_getElem (by simpa using h0)]; rfl
  have h1 : decide (1 ≤ s.size) = true := by simp; omega
  have h2 : decide (s.size ≤ 8) = true := by simp; omega
  unfold Sg.codeB
  rw [hz, h1, h2]
  rfl
theorem code_out {s : ByteArray} (h : ¬ (0 < s.size ∧ s.size ≤ 8)) : Sg.codeB s = false := by
  have : (decide (1 ≤ s.size) && decide (s.size ≤ 8)) = false := by
    rw [Bool.and_eq_false_iff, decide_eq_false_iff_not, decide_eq_false_iff_not]
    omega
  unfold Sg.codeB
  rw [this]
  rfl
set_option maxRecDepth 100000 in
set_option maxHeartbeats 2000000 in
theorem gCode_any (s : ByteArray) (w : World) (hs : s.size ≤ maxLen) : Calls Tryz.prog 67 #[.string s] w (RetB (Sg.codeB s) w) := by
  unfold maxLen at hs
  by_cases hl : 0 < s.size ∧ s.size ≤ 8
  · obtain ⟨h0, h8⟩ := hl
    have HC := Lib.hid (code_of h0 h8)
    have HU := Lib.hid (upper_in s[0])
    have i1 : ¬ (s.size : Int) < 1 := by omega
    have i2 : ¬ 8 < (s.size : Int) := by omega
    have i3 : (0 : Int) < (s.size : Int) := by omega
    by_cases hu : (65 : Int) ≤ (s[0].toNat : Int) ∧ (s[0].toNat : Int) ≤ 90
    · obtain ⟨hu1, hu2⟩ := hu
      have HU1 : Hid (Sg.upper s[0] = true) := Lib.hid (by rw [HU.out]; simp; omega)
      have hu1' : ¬ (s[0].toNat : Int) < 65 := by omega
      have hu2' : ¬ 90 < (s[0].toNat : Int) := by omega
      go_enter Tryz.func67, Tryz.ntmps67
      go_wp2_with fail
      go_loop [3] (fun i => ∃ k : Nat, k ≤ s.size ∧ i = .int .i64 k ∧ (s.data.toList.take k).all Sg.alnum = true) (fun i => s.size - (intOf i).toNat)
      case atStart => exact ⟨0, Nat.zero_le _, rfl, rfl⟩
      case round =>
        obtain ⟨k, hk, rfl, hal⟩ := hrel
        have HAL := Lib.hid hal
        clear hal
        by_cases hlt : k < s.size
        · have HN := Lib.hid (take_succ_all Sg.alnum s k hlt)
          have HA := Lib.hid (alnum_in s[k])
          go_upto_region 7 with fail
          go_cut [54] (fun t wc => t = .bool (!Sg.alnum s[k]) ∧ wc = w)
          case first =>
            go_wp2_with fail
            all_goals
              go_meet
              go_light
              refine ⟨congrArg Value.bool ?_, rfl⟩
              rw [HA.out]
              rw [Bool.eq_iff_iff]
              simp [*]
              try omega
          case rest =>
            obtain ⟨rfl, rfl⟩ := hcut
            cases hA : Sg.alnum s[k]
            · have HF : Hid (Sg.codeB s = false) := Lib.hid (by rw [HC.out, not_all_of Sg.alnum s k hlt hA]; simp)
              clear hA
              go_wp2_with fail
              go_ret
              exact ⟨ret_bool HF.out.symm, rfl⟩
            · have HY := Lib.hid hA
              clear hA
              go_wp2_with fail
              refine ⟨⟨k + 1, by omega, by go_num, by rw [HN.out, HAL.out, HY.out]; rfl⟩, ?_⟩
              simp [intOf]; omega
        · have HT : Hid (Sg.codeB s = true) := Lib.hid (by
            have := HAL.out
            rw [List.take_of_length_le (by simp; omega)] at this
            rw [HC.out, HU1.out, this]; rfl)
          go_wp2_with fail
          go_ret
          exact ⟨ret_bool HT.out.symm, rfl⟩
    · have HF : Hid (Sg.codeB s = false) := Lib.hid (by
        have : Sg.upper s[0] = false := by rw [HU.out, Bool.and_eq_false_iff, decide_eq_false_iff_not, decide_eq_false_iff_not]; omega
        rw [HC.out, this]; rfl)
      have hor : (s[0].toNat : Int) < 65 ∨ (¬ (s[0].toNat : Int) < 65 ∧ 90 < (s[0].toNat : Int)) := by omega
      clear hu
      rcases hor with hu | ⟨hu, hu'⟩
      all_goals
        go_enter Tryz.func67, Tryz.ntmps67
        go_wp2_with fail
        go_ret
        exact ⟨ret_bool HF.out.symm, rfl⟩
  · have HF := Lib.hid (code_out hl)
    have hor : (s.size : Int) < 1 ∨ (¬ (s.size : Int) < 1 ∧ 8 < (s.size : Int)) := by omega
    clear hl
    rcases hor with hu | ⟨hu, hu'⟩
    all_goals
      go_enter Tryz.func67, Tryz.ntmps67
      go_wp2_with fail
      go_ret
      exact ⟨ret_bool HF.out.symm, rfl⟩

theorem textC_in (kind : Int) (c : UInt8) : Sg.textC kind c = ((decide ((97 : Int) ≤ (c.toNat : Int)) && decide ((c.toNat : Int) ≤ 122)) || (!decide (kind = 3) && (decide ((65 : Int) ≤ (c.toNat : Int)) && decide ((c.toNat : Int) ≤ 90)))) := by
  rw [Sg.textC, small_in, upper_in]
theorem text_of {kind : Int} {s : ByteArray} (h : 0 < s.size ∧ s.size ≤ 8) : Sg.textB kind s = s.data.toList.all (Sg.textC kind) := by
  have h1 : decide (1 ≤ s.size) = true := by simp; omega
  have h2 : decide (s.size ≤ 8) = true := by simp; omega
  unfold Sg.textB
  rw [h1, h2]
  rfl
theorem text_out {kind : Int} {s : ByteArray} (h : ¬ (0 < s.size ∧ s.size ≤ 8)) : Sg.textB kind s = false := by
  have : (decide (1 ≤ s.size) && decide (s.size ≤ 8)) = false := by
    rw [Bool.and_eq_false_iff, decide_eq_false_iff_not, decide_eq_false_iff_not]
    omega
  unfold Sg.textB
  rw [this]
  rfl
theorem text_class {s : ByteArray} : s.data.toList.all (Sg.textC 3) = Lx.allS s := by
  unfold Lx.allS
  congr 1
  funext c
  simp [Sg.textC]
theorem text_free {kind : Int} (h : kind ≠ 3) {s : ByteArray} : s.data.toList.all (Sg.textC kind) = Lx.allL s := by
  unfold Lx.allL
  congr 1
  funext c
  rw [Sg.textC, decide_eq_false h]
  simp [Lx.small, Sg.upper, Lx.letter]
set_option maxRecDepth 100000 in
set_option maxHeartbeats 2000000 in
theorem gText_any (kind : Int) (s : ByteArray) (w : World) (hs : s.size ≤ maxLen) : Calls Tryz.prog 79 #[.int .i64 kind, .string s] w (RetB (Sg.textB kind s) w) := by
  unfold maxLen at hs
  by_cases hl : 0 < s.size ∧ s.size ≤ 8
  · have HC := Lib.hid (text_of (kind := kind) hl)
    obtain ⟨h0, h8⟩ := hl
    have i1 : ¬ (s.size : Int) < 1 := by omega
    have i2 : ¬ 8 < (s.size : Int) := by omega
    go_enter Tryz.func79, Tryz.ntmps79
    go_wp2_with fail
    go_loop [5] (fun i => ∃ k : Nat, k ≤ s.size ∧ i = .int .i64 k ∧ (s.data.toList.take k).all (Sg.textC kind) = true) (fun i => s.size - (intOf i).toNat)
    case atStart => exact ⟨0, Nat.zero_le _, rfl, rfl⟩
    case round =>
      obtain ⟨k, hk, rfl, hal⟩ := hrel
      have HAL := Lib.hid hal
      clear hal
      by_cases hlt : k < s.size
      · have HN := Lib.hid (take_succ_all (Sg.textC kind) s k hlt)
        have HA := Lib.hid (textC_in kind s[k])
        go_upto_region 7 with fail
        go_cut [42] (fun t wc => t = .bool (!Sg.textC kind s[k]) ∧ wc = w)
        case first =>
          by_cases hk3 : kind = 3
          · subst hk3
            go_wp2_with fail
            all_goals
              go_meet
              go_light
              refine ⟨congrArg Value.bool ?_, rfl⟩
              rw [HA.out]
              rw [Bool.eq_iff_iff]
              simp [*]
              try omega
          · have hk4 : (kind != 3) = true := by rw [bne_iff_ne]; exact hk3
            go_wp2_with fail
            all_goals
              go_meet
              go_light
              refine ⟨congrArg Value.bool ?_, rfl⟩
              rw [HA.out]
              rw [Bool.eq_iff_iff]
              simp [*]
              try omega
        case rest =>
          obtain ⟨rfl, rfl⟩ := hcut
          cases hA : Sg.textC kind s[k]
          · have HF : Hid (Sg.textB kind s = false) := Lib.hid (by rw [HC.out, not_all_of (Sg.textC kind) s k hlt hA])
            clear hA
            go_wp2_with fail
            go_ret
            exact ⟨ret_bool HF.out.symm, rfl⟩
          · have HY := Lib.hid hA
            clear hA
            go_wp2_with fail
            refine ⟨⟨k + 1, by omega, by go_num, by rw [HN.out, HAL.out, HY.out]; rfl⟩, ?_⟩
            simp [intOf]; omega
      · have HT : Hid (Sg.textB kind s = true) := Lib.hid (by
          have := HAL.out
          rw [List.take_of_length_le (by simp; omega)] at this
          rw [HC.out, this])
        go_wp2_with fail
        go_ret
        exact ⟨ret_bool HT.out.symm, rfl⟩
  · have HF := Lib.hid (text_out (kind := kind) hl)
    have hor : (s.size : Int) < 1 ∨ (¬ (s.size : Int) < 1 ∧ 8 < (s.size : Int)) := by omega
    clear hl
    rcases hor with hu | ⟨hu, hu'⟩
    all_goals
      go_enter Tryz.func79, Tryz.ntmps79
      go_wp2_with fail
      go_ret
      exact ⟨ret_bool HF.out.symm, rfl⟩
set_option maxRecDepth 100000 in
set_option maxHeartbeats 2000000 in
theorem r1Right_any (kind : Int) (s : ByteArray) (w : World) (hs : s.size ≤ maxLen) : Calls Tryz.prog 81 #[.int .i64 kind, .string s] w (RetB (Sg.textB kind s) w) := by
  have hs' := hs
  unfold maxLen at hs'
  by_cases hl : 0 < s.size ∧ s.size ≤ 8
  · have HC := Lib.hid (text_of (kind := kind) hl)
    obtain ⟨h0, h8⟩ := hl
    have i1 : ¬ (s.size : Int) < 1 := by omega
    have i2 : ¬ 8 < (s.size : Int) := by omega
    by_cases hk : kind = 3
    · subst hk
      have HT : Hid (Sg.textB 3 s = Lx.allS s) := Lib.hid (by rw [HC.out, text_class])
      go_enter Tryz.func81, Tryz.ntmps81
      go_wp2_with fail
      refine (r1Small_any s _ hs).mono ?_
      rintro e w' ⟨rfl, rfl⟩
      go_wp2_with fail
      go_ret
      exact ⟨ret_bool HT.out.symm, rfl⟩
    · have HT : Hid (Sg.textB kind s = Lx.allL s) := Lib.hid (by rw [HC.out, text_free hk])
      go_enter Tryz.func81, Tryz.ntmps81
      go_wp2_with fail
      refine (r1Sounds_any s _ hs).mono ?_
      rintro e w' ⟨rfl, rfl⟩
      go_wp2_with fail
      go_ret
      exact ⟨ret_bool HT.out.symm, rfl⟩
  · have HF := Lib.hid (text_out (kind := kind) hl)
    have hor : (s.size : Int) < 1 ∨ (¬ (s.size : Int) < 1 ∧ 8 < (s.size : Int)) := by omega
    clear hl
    rcases hor with hu | ⟨hu, hu'⟩
    all_goals
      go_enter Tryz.func81, Tryz.ntmps81
      go_wp2_with fail
      go_ret
      exact ⟨ret_bool HF.out.symm, rfl⟩
set_option maxRecDepth 100000 in
set_option maxHeartbeats 2000000 in
theorem r1Code_any (s : ByteArray) (w : World) (hs : s.size ≤ maxLen) : Calls Tryz.prog 69 #[.string s] w (RetB (Sg.codeB s) w) := by
  unfold maxLen at hs
  by_cases hl : 0 < s.size ∧ s.size ≤ 8
  · obtain ⟨h0, h8⟩ := hl
    have HC := Lib.hid (code_of h0 h8)
    have HU := Lib.hid (upper_in s[0])
    have i1 : ¬ (s.size : Int) < 1 := by omega
    have i2 : ¬ 8 < (s.size : Int) := by omega
    have i3 : (0 : Int) < (s.size : Int) := by omega
    cases hu : (decide ((65 : Int) ≤ (s[0].toNat : Int)) && decide ((s[0].toNat : Int) ≤ 90))
    · have HF : Hid (Sg.codeB s = false) := Lib.hid (by rw [HC.out, HU.out, hu]; rfl)
      have H1 := Lib.hid hu
      clear hu
      go_enter Tryz.func69, Tryz.ntmps69
      go_wp2_with fail
      refine (r1between_any _ _ _ _).mono ?_
      rw [H1.out]
      rintro e w' ⟨rfl, rfl⟩
      go_wp2_with fail
      go_ret
      exact ⟨ret_bool HF.out.symm, rfl⟩
    · have HU1 := Lib.hid (HU.out.trans hu)
      have H0 := Lib.hid hu
      clear hu
      go_enter Tryz.func69, Tryz.ntmps69
      go_wp2_with fail
      refine (r1between_any _ _ _ _).mono ?_
      rw [H0.out]
      rintro e w' ⟨rfl, rfl⟩
      go_wp2_with fail
      go_loop [3] (fun i => ∃ k : Nat, k ≤ s.size ∧ i = .int .i64 k ∧ (s.data.toList.take k).all Sg.alnum = true) (fun i => s.size - (intOf i).toNat)
      case atStart => exact ⟨0, Nat.zero_le _, rfl, rfl⟩
      case round =>
        obtain ⟨k, hk, rfl, hal⟩ := hrel
        have HAL := Lib.hid hal
        clear hal
        by_cases hlt : k < s.size
        · have HN := Lib.hid (take_succ_all Sg.alnum s k hlt)
          have HA := Lib.hid (alnum_in s[k])
          cases h1 : (decide ((97 : Int) ≤ (s[k].toNat : Int)) && decide ((s[k].toNat : Int) ≤ 122))
          · cases h2 : (decide ((65 : Int) ≤ (s[k].toNat : Int)) && decide ((s[k].toNat : Int) ≤ 90))
            · cases h3 : (decide ((48 : Int) ≤ (s[k].toNat : Int)) && decide ((s[k].toNat : Int) ≤ 57))
              · have HF : Hid (Sg.codeB s = false) := Lib.hid (by rw [HC.out, not_all_of Sg.alnum s k hlt (by rw [HA.out, h1, h2, h3]; rfl)]; simp)
                have H1 := Lib.hid h1
                have H2 := Lib.hid h2
                have H3 := Lib.hid h3
                clear h1 h2 h3
                go_wp2_with fail
                refine (r1between_any _ _ _ _).mono ?_
                rw [H1.out]
                rintro e w' ⟨rfl, rfl⟩
                go_wp2_with fail
                refine (r1between_any _ _ _ _).mono ?_
                rw [H2.out]
                rintro e w' ⟨rfl, rfl⟩
                go_wp2_with fail
                refine (r1between_any _ _ _ _).mono ?_
                rw [H3.out]
                rintro e w' ⟨rfl, rfl⟩
                go_wp2_with fail
                go_ret
                exact ⟨ret_bool HF.out.symm, rfl⟩
              · have H1 := Lib.hid h1
                have H2 := Lib.hid h2
                have H3 := Lib.hid h3
                clear h1 h2 h3
                go_wp2_with fail
                refine (r1between_any _ _ _ _).mono ?_
                rw [H1.out]
                rintro e w' ⟨rfl, rfl⟩
                go_wp2_with fail
                refine (r1between_any _ _ _ _).mono ?_
                rw [H2.out]
                rintro e w' ⟨rfl, rfl⟩
                go_wp2_with fail
                refine (r1between_any _ _ _ _).mono ?_
                rw [H3.out]
                rintro e w' ⟨rfl, rfl⟩
                go_wp2_with fail
                refine ⟨⟨k + 1, by omega, by go_num, by rw [HN.out, HAL.out, HA.out, H1.out, H2.out, H3.out]; rfl⟩, ?_⟩
                simp [intOf]; omega
            · have H1 := Lib.hid h1
              have H2 := Lib.hid h2
              clear h1 h2
              go_wp2_with fail
              refine (r1between_any _ _ _ _).mono ?_
              rw [H1.out]
              rintro e w' ⟨rfl, rfl⟩
              go_wp2_with fail
              refine (r1between_any _ _ _ _).mono ?_
              rw [H2.out]
              rintro e w' ⟨rfl, rfl⟩
              go_wp2_with fail
              refine ⟨⟨k + 1, by omega, by go_num, by rw [HN.out, HAL.out, HA.out, H1.out, H2.out]; rfl⟩, ?_⟩
              simp [intOf]; omega
          · have H1 := Lib.hid h1
            clear h1
            go_wp2_with fail
            refine (r1between_any _ _ _ _).mono ?_
            rw [H1.out]
            rintro e w' ⟨rfl, rfl⟩
            go_wp2_with fail
            refine ⟨⟨k + 1, by omega, by go_num, by rw [HN.out, HAL.out, HA.out, H1.out]; rfl⟩, ?_⟩
            simp [intOf]; omega
        · have HT : Hid (Sg.codeB s = true) := Lib.hid (by
            have := HAL.out
            rw [List.take_of_length_le (by simp; omega)] at this
            rw [HC.out, HU1.out, this]; rfl)
          go_wp2_with fail
          go_ret
          exact ⟨ret_bool HT.out.symm, rfl⟩
  · have HF := Lib.hid (code_out hl)
    have hor : (s.size : Int) < 1 ∨ (¬ (s.size : Int) < 1 ∧ 8 < (s.size : Int)) := by omega
    clear hl
    rcases hor with hu | ⟨hu, hu'⟩
    all_goals
      go_enter Tryz.func69, Tryz.ntmps69
      go_wp2_with fail
      go_ret
      exact ⟨ret_bool HF.out.symm, rfl⟩
end Go.Proofs.YtkmimjngmfdpmaaGreatDoor
namespace Go.Proofs.YtkmimjngmfdpmaaGreatDoor
open Go.RowKit

theorem Lx.bytes_eq {a b : ByteArray} (h : a.data.toList = b.data.toList) : a = b := by
  have e : a.data = b.data := Array.toList_inj.1 h
  cases a; cases b; simp only at e; rw [e]
theorem Lx.toList_data (b : ByteArray) : b.toList = b.data.toList := by
  have h : ∀ (k i : Nat) (acc : List UInt8), b.size - i ≤ k → i ≤ b.size → ByteArray.toList.loop b i acc = acc.reverse ++ b.data.toList.drop i := by
    intro k
    induction k with
    | zero =>
      intro i acc hk hi
      rw [ByteArray.toList.loop, if_neg (by omega), List.drop_eq_nil_of_le (by show b.size ≤ i; omega), List.append_nil]
    | succ k ih =>
      intro i acc hk hi
      rw [ByteArray.toList.loop]
      by_cases hlt : i < b.size
      · have hb : i < b.data.toList.length := hlt
        have e : b.get! i = b.data.toList[i]'hb := by
          have hb' : i < b.data.size := hlt
          show b.data[i]! = _
          rw [getElem!_pos b.data i hb', Array.getElem_toList]
        rw [if_pos hlt, ih (i + 1) _ (by omega) (by omega), List.reverse_cons, List.append_assoc, List.drop_eq_getElem_cons hb, e]
        rfl
      · rw [if_neg hlt, List.drop_eq_nil_of_le (by show b.size ≤ i; omega), List.append_nil]
  have := h b.size 0 [] (by omega) (Nat.zero_le _)
  simpa [ByteArray.toList] using this
theorem Lx.toList_ne {a b : ByteArray} (h : a ≠ b) : (a.toList == b.toList) = false := by
  rw [beq_eq_false_iff_ne]
  intro e
  rw [Lx.toList_data, Lx.toList_data] at e
  exact h (Lx.bytes_eq e)
end Go.Proofs.YtkmimjngmfdpmaaGreatDoor
namespace Lx
end Lx
namespace Go.Proofs.YtkmimjngmfdpmaaGreatDoor
open Go.RowKit


end Go.Proofs.YtkmimjngmfdpmaaGreatDoor
namespace Go.Proofs.YtkmimjngmfdpmaaGreatDoor
open Go.RowKit

theorem below_drewN {B : Nat} {a w : World} (h : Below B a w) (n : Nat) : Below B a (w.drewN n) := ⟨h.os, h.tape, h.output, h.size, h.block⟩


end Go.Proofs.YtkmimjngmfdpmaaGreatDoor
namespace Go.Proofs.YtkmimjngmfdpmaaGreatDoor
open Go.RowKit


end Go.Proofs.YtkmimjngmfdpmaaGreatDoor
namespace Go.Proofs.YtkmimjngmfdpmaaGreatDoor
open Go.RowKit

theorem start_res' (w : World) (A B : Obj) : ((w.alloc A).alloc B).heap[w.heap.size + 1]? = some B := by
  have q := heap_alloc_new (w.alloc A) B
  have hs : (w.alloc A).heap.size = w.heap.size + 1 := by simp
  rw [hs] at q
  exact q









end Go.Proofs.YtkmimjngmfdpmaaGreatDoor
