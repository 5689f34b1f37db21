/- Contracts of the leaf functions. -/
import Derived.Test.YtpmnpnlfgfleeaaGreatDoorProg
import Derived.WalkKit
import Derived.WalkLawsBesides
import Derived.WalkSpells
import Derived.Lib.Hide
import Derived.Test.YtpmnpnlfgfleeaaGreatDoorMgGlossPlain
namespace Go.Proofs.YtpmnpnlfgfleeaaGreatDoor
open Go.RowKit

def RetB (b : Bool) (w : World) (e : Ending) (w' : World) : Prop := e = .returned (.bool b) ∧ w = w'

theorem within_any (n lo hi : Int) (w : World) : Calls Tryz.prog 62 #[.int .i64 n, .int .i64 lo, .int .i64 hi] w (RetB (Lx.withinB n lo hi) w) := by
  go_enter Tryz.func62, Tryz.ntmps62
  go_wp2
  · go_ret
    exact ⟨by simp [Lx.withinB, *] <;> omega, rfl⟩
  · go_ret
    exact ⟨by simp [Lx.withinB, *] <;> omega, rfl⟩

theorem rkind_any (n : Int) (w : World) : Calls Tryz.prog 59 #[.int .i64 n] w (RetB (Lx.withinB n 1 9) w) := by
  go_enter Tryz.func59, Tryz.ntmps59
  go_wp2
  · go_ret
    exact ⟨by simp [Lx.withinB, *] <;> omega, rfl⟩
  · go_ret
    exact ⟨by simp [Lx.withinB, *] <;> omega, rfl⟩

theorem rweight_any (n : Int) (w : World) : Calls Tryz.prog 61 #[.int .i64 n] w (RetB (Lx.withinB n 0 1000) w) := by
  go_enter Tryz.func61, Tryz.ntmps61
  go_wp2
  · go_ret
    exact ⟨by simp [Lx.withinB, *] <;> omega, rfl⟩
  · go_ret
    exact ⟨by simp [Lx.withinB, *] <;> omega, rfl⟩

theorem r1between_any (c lo hi : Int) (w : World) : Calls Tryz.prog 105 #[.int .u8 c, .int .u8 lo, .int .u8 hi] w (RetB (decide (lo ≤ c) && decide (c ≤ hi)) w) := by
  go_enter Tryz.func105, Tryz.ntmps105
  go_wp2
  · go_ret
    exact ⟨by simp [*] <;> omega, rfl⟩
  · go_ret
    exact ⟨by simp [*] <;> omega, rfl⟩

theorem take_succ_all (p : UInt8 → Bool) (s : ByteArray) (k : Nat) (h : k < s.size) : (s.data.toList.take (k + 1)).all p = ((s.data.toList.take k).all p && p s[k]) := by
  rw [List.take_succ_eq_append_getElem (by simpa using h), List.all_append]
  simp
  rfl

theorem not_all_of (p : UInt8 → Bool) (s : ByteArray) (k : Nat) (h : k < s.size) (hp : p s[k] = false) : s.data.toList.all p = false := by
  rw [List.all_eq_false]
  exact ⟨s[k], by simp [ByteArray.getElem_eq_getElem_data], by simp [hp]⟩

theorem ret_bool {a b : Bool} (h : a = b) : Ending.returned (.bool a) = .returned (.bool b) := by rw [h]
theorem ret_int {k : IntKind} {a b : Int} (h : a = b) : Ending.returned (.int k a) = .returned (.int k b) := by rw [h]

theorem letter_in (c : UInt8) : Lx.letter c = ((decide ((97 : Int) ≤ (c.toNat : Int)) && decide ((c.toNat : Int) ≤ 122)) || (decide ((65 : Int) ≤ (c.toNat : Int)) && decide ((c.toNat : Int) ≤ 90))) := by
  rw [Bool.eq_iff_iff]; simp [Lx.letter, UInt8.le_iff_toNat_le]; omega
theorem small_in (c : UInt8) : Lx.small c = (decide ((97 : Int) ≤ (c.toNat : Int)) && decide ((c.toNat : Int) ≤ 122)) := by
  rw [Bool.eq_iff_iff]; simp [Lx.small, UInt8.le_iff_toNat_le]; omega

theorem r1Sounds_any (s : ByteArray) (w : World) (hs : s.size ≤ maxLen) : Calls Tryz.prog 87 #[.string s] w (RetB (Lx.allL s) w) := by
  unfold maxLen at hs
  go_enter Tryz.func87, Tryz.ntmps87
  go_wp2
  go_loop [3] (fun i => ∃ k : Nat, k ≤ s.size ∧ i = .int .i64 k ∧ (s.data.toList.take k).all Lx.letter = true) (fun i => s.size - (intOf i).toNat)
  case atStart => exact ⟨0, Nat.zero_le _, rfl, rfl⟩
  case round =>
    obtain ⟨k, hk, rfl, hal⟩ := hrel
    have HAL := Lib.hid hal
    clear hal
    by_cases hlt : k < s.size
    · have HL := Lib.hid (letter_in s[k])
      cases h1 : (decide ((97 : Int) ≤ (s[k].toNat : Int)) && decide ((s[k].toNat : Int) ≤ 122))
      · cases h2 : (decide ((65 : Int) ≤ (s[k].toNat : Int)) && decide ((s[k].toNat : Int) ≤ 90))
        · have HN := Lib.hid (not_all_of Lx.letter s k hlt (by rw [HL.out, h1, h2]; rfl))
          have H1 := Lib.hid h1
          have H2 := Lib.hid h2
          clear h1 h2
          go_wp2_with fail
          refine (r1between_any _ _ _ _).mono ?_
          rw [H1.out]
          rintro e w' ⟨rfl, rfl⟩
          go_wp2_with fail
          refine (r1between_any _ _ _ _).mono ?_
          rw [H2.out]
          rintro e w' ⟨rfl, rfl⟩
          go_wp2_with fail
          go_ret
          exact ⟨ret_bool HN.out.symm, rfl⟩
        · have HN := Lib.hid (take_succ_all Lx.letter s k hlt)
          have H1 := Lib.hid h1
          have H2 := Lib.hid h2
          clear h1 h2
          go_wp2_with fail
          refine (r1between_any _ _ _ _).mono ?_
          rw [H1.out]
          rintro e w' ⟨rfl, rfl⟩
          go_wp2_with fail
          refine (r1between_any _ _ _ _).mono ?_
          rw [H2.out]
          rintro e w' ⟨rfl, rfl⟩
          go_wp2_with fail
          go_round
          case rel => exact ⟨k + 1, by omega, by go_num, by rw [HN.out, HAL.out, HL.out, H1.out, H2.out]; rfl⟩
          case measure => simp [intOf]; omega
      · have HN := Lib.hid (take_succ_all Lx.letter s k hlt)
        have H1 := Lib.hid h1
        clear h1
        go_wp2_with fail
        refine (r1between_any _ _ _ _).mono ?_
        rw [H1.out]
        rintro e w' ⟨rfl, rfl⟩
        go_wp2_with fail
        go_round
        case rel => exact ⟨k + 1, by omega, by go_num, by rw [HN.out, HAL.out, HL.out, H1.out]; rfl⟩
        case measure => simp [intOf]; omega
    · go_wp2_with fail
      go_ret
      have := HAL.out
      rw [List.take_of_length_le (by simp; omega)] at this
      exact ⟨ret_bool (by rw [Lx.allL, this]), rfl⟩

def RetBB (b : Bool) (w : World) (e : Ending) (w' : World) : Prop := e = .returned (.bool b) ∧ Below w.heap.size w w'

theorem below_iter (w : World) (s : ByteArray) (p : Nat) : Below w.heap.size w (w.iter s p) := (Below.refl _ _).alloc (Nat.le_refl _) _

theorem r1Small_any (s : ByteArray) (w : World) (hs : s.size ≤ maxLen) : Calls Tryz.prog 88 #[.string s] w (RetB (Lx.allS s) w) := by
  unfold maxLen at hs
  go_enter Tryz.func88, Tryz.ntmps88
  go_wp2
  go_loop [3] (fun i => ∃ k : Nat, k ≤ s.size ∧ i = .int .i64 k ∧ (s.data.toList.take k).all Lx.small = true) (fun i => s.size - (intOf i).toNat)
  case atStart => exact ⟨0, Nat.zero_le _, rfl, rfl⟩
  case round =>
    obtain ⟨k, hk, rfl, hal⟩ := hrel
    have HAL := Lib.hid hal
    clear hal
    by_cases hlt : k < s.size
    · have HL := Lib.hid (small_in s[k])
      cases h1 : (decide ((97 : Int) ≤ (s[k].toNat : Int)) && decide ((s[k].toNat : Int) ≤ 122))
      · have HN := Lib.hid (not_all_of Lx.small s k hlt (by rw [HL.out, h1]))
        have H1 := Lib.hid h1
        clear h1
        go_wp2_with fail
        refine (r1between_any _ _ _ _).mono ?_
        rw [H1.out]
        rintro e w' ⟨rfl, rfl⟩
        go_wp2_with fail
        go_ret
        exact ⟨ret_bool HN.out.symm, rfl⟩
      · have HN := Lib.hid (take_succ_all Lx.small s k hlt)
        have H1 := Lib.hid h1
        clear h1
        go_wp2_with fail
        refine (r1between_any _ _ _ _).mono ?_
        rw [H1.out]
        rintro e w' ⟨rfl, rfl⟩
        go_wp2_with fail
        go_round
        case rel => exact ⟨k + 1, by omega, by go_num, by rw [HN.out, HAL.out, HL.out, H1.out]; rfl⟩
        case measure => simp [intOf]; omega
    · go_wp2_with fail
      go_ret
      have := HAL.out
      rw [List.take_of_length_le (by simp; omega)] at this
      exact ⟨ret_bool (by rw [Lx.allS, this]), rfl⟩

theorem rsounds_any (s : ByteArray) (m : Int) (w : World) (hs : s.size ≤ maxLen) : Calls Tryz.prog 58 #[.string s, .int .i64 m] w (RetB (Lx.soundsB s m) w) := by
  have hs' := hs
  unfold maxLen at hs'
  go_enter Tryz.func58, Tryz.ntmps58
  go_wp2_with (go_at_call 87; refine (r1Sounds_any _ _ hs).mono ?_; rintro e w' ⟨rfl, rfl⟩)
  all_goals go_ret
  all_goals refine ⟨ret_bool ?_, rfl⟩
  all_goals simp [Lx.soundsB] <;> omega

theorem rname_any (s : ByteArray) (w : World) (hs : s.size ≤ maxLen) : Calls Tryz.prog 60 #[.string s] w (RetB (Lx.nameB s) w) := by
  have hs' := hs
  unfold maxLen at hs'
  go_enter Tryz.func60, Tryz.ntmps60
  go_wp2_with (go_at_call 88; refine (r1Small_any _ _ hs).mono ?_; rintro e w' ⟨rfl, rfl⟩)
  all_goals go_ret
  all_goals refine ⟨ret_bool ?_, rfl⟩
  all_goals simp [Lx.nameB] <;> omega

/-- A letter at hand is decoded as itself; another byte as a rune that is no letter. -/
theorem ascii_of_letter (c : UInt8) (h : Lx.letter c = true) : c.toNat < 128 := by
  have := letter_in c
  rw [h] at this
  simp at this
  omega
theorem not_letter_rune (s : ByteArray) (k : Nat) (h : k < s.size) (hl : Lx.letter s[k] = false) :
    ¬ (97 ≤ ((Utf8.decode s k).1 : Int) ∧ ((Utf8.decode s k).1 : Int) ≤ 122) ∧ ¬ (65 ≤ ((Utf8.decode s k).1 : Int) ∧ ((Utf8.decode s k).1 : Int) ≤ 90) := by
  by_cases ha : s[k].toNat < 128
  · rw [decode_ascii s k h ha]
    have := letter_in s[k]
    rw [hl] at this
    simp at this
    omega
  · have := decode_high s k h (by omega)
    omega
theorem not_small_rune (s : ByteArray) (k : Nat) (h : k < s.size) (hl : Lx.small s[k] = false) :
    ¬ (97 ≤ ((Utf8.decode s k).1 : Int) ∧ ((Utf8.decode s k).1 : Int) ≤ 122) := by
  by_cases ha : s[k].toNat < 128
  · rw [decode_ascii s k h ha]
    have := small_in s[k]
    rw [hl] at this
    simp at this
    omega
  · have := decode_high s k h (by omega)
    omega

theorem sounds_any (s : ByteArray) (m : Int) (w : World) (hs : s.size ≤ maxLen) : Calls Tryz.prog 69 #[.string s, .int .i64 m] w (RetBB (Lx.soundsB s m) w) := by
  unfold maxLen at hs
  go_enter Tryz.func69, Tryz.ntmps69
  go_wp2
  go_loopw [6] (fun c wr => ∃ k : Nat, k ≤ s.size ∧ wr = w.iter s k ∧ (s.data.toList.take k).all Lx.letter = true) (fun c wr => s.size - wr.iterPos w.heap.size)
  case atStart => exact ⟨0, Nat.zero_le _, rfl, rfl⟩
  case round =>
    obtain ⟨k, hk, rfl, hal⟩ := hrel
    have HAL := Lib.hid hal
    clear hal
    by_cases hlt : k < s.size
    · cases hl : Lx.letter s[k]
      · have hnx := fun ty => run_next_any (P := Tryz.prog) w s k ty hlt
        obtain ⟨h1, h2⟩ := not_letter_rune s k hlt hl
        have HN := Lib.hid (not_all_of Lx.letter s k hlt hl)
        clear hl HAL
        generalize hc : (Utf8.decode s k).1 = c at *
        clear hc
        go_wp2_with fail
        all_goals first
          | (exfalso; simp at *; omega)
          | (go_ret; exact ⟨ret_bool (by rw [Lx.soundsB, Lx.allL, HN.out, Bool.and_false]), below_iter _ _ _⟩)
      · have hnx := fun ty => run_next_ascii (P := Tryz.prog) w s k ty hlt (ascii_of_letter _ hl)
        have HN := Lib.hid (take_succ_all Lx.letter s k hlt)
        have HL := Lib.hid hl
        rw [letter_in] at hl
        have hl' : (97 ≤ (s[k].toNat : Int) ∧ (s[k].toNat : Int) ≤ 122) ∨ (65 ≤ (s[k].toNat : Int) ∧ (s[k].toNat : Int) ≤ 90) := by simpa using hl
        clear hl
        have Hl := Lib.hid hl'
        clear hl'
        go_wp2_with fail
        all_goals have hl' := Hl.out
        all_goals first
          | (exfalso; simp at *; omega)
          | skip
        all_goals go_roundw
        all_goals first
          | exact ⟨k + 1, by omega, rfl, by rw [HN.out, HAL.out, HL.out]; rfl⟩
          | (simp; omega)
    · have hnx := fun ty => run_next_end (P := Tryz.prog) w s k ty hlt
      have hfin : Lx.allL s = true := by
        have := HAL.out
        rwa [List.take_of_length_le (by simp; omega)] at this
      have HF := Lib.hid hfin
      clear hfin
      go_wp2_with fail
      all_goals go_ret
      all_goals refine ⟨ret_bool ?_, below_iter _ _ _⟩
      all_goals rw [Lx.soundsB, HF.out]
      all_goals simp <;> omega

theorem ascii_of_small (c : UInt8) (h : Lx.small c = true) : c.toNat < 128 := by
  have := small_in c
  rw [h] at this
  simp at this
  omega

theorem named_any (s : ByteArray) (w : World) (hs : s.size ≤ maxLen) : Calls Tryz.prog 70 #[.string s] w (RetBB (Lx.nameB s) w) := by
  unfold maxLen at hs
  go_enter Tryz.func70, Tryz.ntmps70
  go_wp2
  go_loopw [4] (fun c wr => ∃ k : Nat, k ≤ s.size ∧ wr = w.iter s k ∧ (s.data.toList.take k).all Lx.small = true) (fun c wr => s.size - wr.iterPos w.heap.size)
  case atStart => exact ⟨0, Nat.zero_le _, rfl, rfl⟩
  case round =>
    obtain ⟨k, hk, rfl, hal⟩ := hrel
    have HAL := Lib.hid hal
    clear hal
    by_cases hlt : k < s.size
    · cases hl : Lx.small s[k]
      · have hnx := fun ty => run_next_any (P := Tryz.prog) w s k ty hlt
        have h1 := not_small_rune s k hlt hl
        have HN := Lib.hid (not_all_of Lx.small s k hlt hl)
        clear hl HAL
        generalize hc : (Utf8.decode s k).1 = c at *
        clear hc
        go_wp2_with fail
        all_goals first
          | (exfalso; simp at *; omega)
          | (go_ret; exact ⟨ret_bool (by rw [Lx.nameB, Lx.allS, HN.out, Bool.and_false]), below_iter _ _ _⟩)
      · have hnx := fun ty => run_next_ascii (P := Tryz.prog) w s k ty hlt (ascii_of_small _ hl)
        have HN := Lib.hid (take_succ_all Lx.small s k hlt)
        have HL := Lib.hid hl
        rw [small_in] at hl
        have hl' : (97 ≤ (s[k].toNat : Int) ∧ (s[k].toNat : Int) ≤ 122) := by simpa using hl
        clear hl
        have Hl := Lib.hid hl'
        clear hl'
        go_wp2_with fail
        all_goals have hl' := Hl.out
        all_goals first
          | (exfalso; simp at *; omega)
          | skip
        all_goals go_roundw
        all_goals first
          | exact ⟨k + 1, by omega, rfl, by rw [HN.out, HAL.out, HL.out]; rfl⟩
          | (simp; omega)
    · have hnx := fun ty => run_next_end (P := Tryz.prog) w s k ty hlt
      have hfin : Lx.allS s = true := by
        have := HAL.out
        rwa [List.take_of_length_le (by simp; omega)] at this
      have HF := Lib.hid hfin
      clear hfin
      go_wp2_with fail
      all_goals go_ret
      all_goals refine ⟨ret_bool ?_, below_iter _ _ _⟩
      all_goals rw [Lx.nameB, HF.out]
      all_goals (rw [Bool.eq_iff_iff]; simp; omega)
end Go.Proofs.YtpmnpnlfgfleeaaGreatDoor
