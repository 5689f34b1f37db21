/- The reference's Copy: an equal lexicon in new memory. Made by gen_copy.py. Contracts of the leaf functions. -/
import Derived.Test.YtkmimjngmfdpmaaGreatDoorMgMem
import Derived.Deep.Light
import Derived.Test.YtkmimjngmfdpmaaGreatDoorProg
import Derived.WalkKit
import Derived.WalkLawsBesides
import Derived.WalkSpells
import Derived.Lib.Hide
import Derived.Test.YtkmimjngmfdpmaaGreatDoorMgPlain
namespace Go.Proofs.YtkmimjngmfdpmaaGreatDoor
open Go.RowKit

def dn (d : Array Bool) (j : Nat) : Prop := d.getD j false = true
theorem dn_of {d : Array Bool} {i j : Nat} (hi : i < d.size) (h : dn (d.setIfInBounds i true) j) (hne : j ≠ i) : dn d j :=
  ((getD_set hi).1 h).resolve_left hne

theorem dn_up {d : Array Bool} {i j : Nat} (h : dn d j) : dn (d.setIfInBounds i true) j := by
  by_cases hi : i < d.size
  · exact (getD_set hi).2 (.inr h)
  · unfold dn at *; rwa [Array.setIfInBounds_eq_of_size_le (by omega)]
theorem own_form {w : World} {base : Nat} {e : TypeId} {size n : Nat} {v : Value} {xs : List Value} (h : w.ownsRow base e size v n xs) : ∃ A c, v = .slice A n c := by
  rcases h.2 with ⟨rfl, rfl⟩ | ⟨g, cap, cur, rfl, _⟩
  · exact ⟨_, _, rfl⟩
  · exact ⟨_, _, rfl⟩
theorem start_res (w : World) (A : Obj) {B : Obj} : ((w.alloc A).alloc B).drew.heap[w.heap.size + 1]? = some B := by
  have q := heap_alloc_new (w.alloc A) B
  have hs : (w.alloc A).heap.size = w.heap.size + 1 := by simp
  rw [hs] at q
  exact q
theorem not_dn {d : Array Bool} {i : Nat} (hi : i < d.size) (h : d.getD i true = false) : ¬ dn d i := by
  unfold dn; simp [Array.getD, hi] at h ⊢; simpa using h
theorem dn_self {d : Array Bool} {i : Nat} (hi : i < d.size) : dn (d.setIfInBounds i true) i := (getD_set hi).2 (.inl rfl)



section
variable {w : World} {v0 v1 v2 : Value} {x : Lx.Lexicon}


end
end Go.Proofs.YtkmimjngmfdpmaaGreatDoor
namespace Go.Proofs.YtkmimjngmfdpmaaGreatDoor
open Go.RowKit

def RetB (b : Bool) (w : World) (e : Ending) (w' : World) : Prop := e = .returned (.bool b) ∧ w = w'




theorem r1between_any (c lo hi : Int) (w : World) : Calls Tryz.prog 80 #[.int .u8 c, .int .u8 lo, .int .u8 hi] w (RetB (decide (lo ≤ c) && decide (c ≤ hi)) w) := by
  go_enter Tryz.func80, Tryz.ntmps80
  go_wp2
  · go_ret
    exact ⟨by simp [*] <;> omega, rfl⟩
  · go_ret
    exact ⟨by simp [*] <;> omega, rfl⟩

theorem take_succ_all (p : UInt8 → Bool) (s : ByteArray) (k : Nat) (h : k < s.size) : (s.data.toList.take (k + 1)).all p = ((s.data.toList.take k).all p && p s[k]) := by
  rw [List.take_succ_eq_append_getElem (by simpa using h), List.all_append]
  simp
  rfl

theorem not_all_of (p : UInt8 → Bool) (s : ByteArray) (k : Nat) (h : k < s.size) (hp : p s[k] = false) : s.data.toList.all p = false := by
  rw [List.all_eq_false]
  exact ⟨s[k], by simp [ByteArray.getElem_eq_getElem_data], by simp [hp]⟩

theorem ret_bool {a b : Bool} (h : a = b) : Ending.returned (.bool a) = .returned (.bool b) := by rw [h]
theorem ret_int {k : IntKind} {a b : Int} (h : a = b) : Ending.returned (.int k a) = .returned (.int k b) := by rw [h]

theorem letter_in (c : UInt8) : Lx.letter c = ((decide ((97 : Int) ≤ (c.toNat : Int)) && decide ((c.toNat : Int) ≤ 122)) || (decide ((65 : Int) ≤ (c.toNat : Int)) && decide ((c.toNat : Int) ≤ 90))) := by
  rw [Bool.eq_iff_iff]; simp [Lx.letter, UInt8.le_iff_toNat_le]; omega
theorem small_in (c : UInt8) : Lx.small c = (decide ((97 : Int) ≤ (c.toNat : Int)) && decide ((c.toNat : Int) ≤ 122)) := by
  rw [Bool.eq_iff_iff]; simp [Lx.small, UInt8.le_iff_toNat_le]; omega

theorem r1Sounds_any (s : ByteArray) (w : World) (hs : s.size ≤ maxLen) : Calls Tryz.prog 119 #[.string s] w (RetB (Lx.allL s) w) := by
  unfold maxLen at hs
  go_enter Tryz.func119, Tryz.ntmps119
  go_wp2
  go_loop [3] (fun i => ∃ k : Nat, k ≤ s.size ∧ i = .int .i64 k ∧ (s.data.toList.take k).all Lx.letter = true) (fun i => s.size - (intOf i).toNat)
  case atStart => exact ⟨0, Nat.zero_le _, rfl, rfl⟩
  case round =>
    obtain ⟨k, hk, rfl, hal⟩ := hrel
    have HAL := Lib.hid hal
    clear hal
    by_cases hlt : k < s.size
    · have HL := Lib.hid (letter_in s[k])
      cases h1 : (decide ((97 : Int) ≤ (s[k].toNat : Int)) && decide ((s[k].toNat : Int) ≤ 122))
      · cases h2 : (decide ((65 : Int) ≤ (s[k].toNat : Int)) && decide ((s[k].toNat : Int) ≤ 90))
        · have HN := Lib.hid (not_all_of Lx.letter s k hlt (by rw [HL.out, h1, h2]; rfl))
          have H1 := Lib.hid h1
          have H2 := Lib.hid h2
          clear h1 h2
          go_wp2_with fail
          refine (r1between_any _ _ _ _).mono ?_
          rw [H1.out]
          rintro e w' ⟨rfl, rfl⟩
          go_wp2_with fail
          refine (r1between_any _ _ _ _).mono ?_
          rw [H2.out]
          rintro e w' ⟨rfl, rfl⟩
          go_wp2_with fail
          go_ret
          exact ⟨ret_bool HN.out.symm, rfl⟩
        · have HN := Lib.hid (take_succ_all Lx.letter s k hlt)
          have H1 := Lib.hid h1
          have H2 := Lib.hid h2
          clear h1 h2
          go_wp2_with fail
          refine (r1between_any _ _ _ _).mono ?_
          rw [H1.out]
          rintro e w' ⟨rfl, rfl⟩
          go_wp2_with fail
          refine (r1between_any _ _ _ _).mono ?_
          rw [H2.out]
          rintro e w' ⟨rfl, rfl⟩
          go_wp2_with fail
          go_round
          case rel => exact ⟨k + 1, by omega, by go_num, by rw [HN.out, HAL.out, HL.out, H1.out, H2.out]; rfl⟩
          case measure => simp [intOf]; omega
      · have HN := Lib.hid (take_succ_all Lx.letter s k hlt)
        have H1 := Lib.hid h1
        clear h1
        go_wp2_with fail
        refine (r1between_any _ _ _ _).mono ?_
        rw [H1.out]
        rintro e w' ⟨rfl, rfl⟩
        go_wp2_with fail
        go_round
        case rel => exact ⟨k + 1, by omega, by go_num, by rw [HN.out, HAL.out, HL.out, H1.out]; rfl⟩
        case measure => simp [intOf]; omega
    · go_wp2_with fail
      go_ret
      have := HAL.out
      rw [List.take_of_length_le (by simp; omega)] at this
      exact ⟨ret_bool (by rw [Lx.allL, this]), rfl⟩

def RetBB (b : Bool) (w : World) (e : Ending) (w' : World) : Prop := e = .returned (.bool b) ∧ Below w.heap.size w w'

theorem below_iter (w : World) (s : ByteArray) (p : Nat) : Below w.heap.size w (w.iter s p) := (Below.refl _ _).alloc (Nat.le_refl _) _

theorem r1Small_any (s : ByteArray) (w : World) (hs : s.size ≤ maxLen) : Calls Tryz.prog 118 #[.string s] w (RetB (Lx.allS s) w) := by
  unfold maxLen at hs
  go_enter Tryz.func118, Tryz.ntmps118
  go_wp2
  go_loop [3] (fun i => ∃ k : Nat, k ≤ s.size ∧ i = .int .i64 k ∧ (s.data.toList.take k).all Lx.small = true) (fun i => s.size - (intOf i).toNat)
  case atStart => exact ⟨0, Nat.zero_le _, rfl, rfl⟩
  case round =>
    obtain ⟨k, hk, rfl, hal⟩ := hrel
    have HAL := Lib.hid hal
    clear hal
    by_cases hlt : k < s.size
    · have HL := Lib.hid (small_in s[k])
      cases h1 : (decide ((97 : Int) ≤ (s[k].toNat : Int)) && decide ((s[k].toNat : Int) ≤ 122))
      · have HN := Lib.hid (not_all_of Lx.small s k hlt (by rw [HL.out, h1]))
        have H1 := Lib.hid h1
        clear h1
        go_wp2_with fail
        refine (r1between_any _ _ _ _).mono ?_
        rw [H1.out]
        rintro e w' ⟨rfl, rfl⟩
        go_wp2_with fail
        go_ret
        exact ⟨ret_bool HN.out.symm, rfl⟩
      · have HN := Lib.hid (take_succ_all Lx.small s k hlt)
        have H1 := Lib.hid h1
        clear h1
        go_wp2_with fail
        refine (r1between_any _ _ _ _).mono ?_
        rw [H1.out]
        rintro e w' ⟨rfl, rfl⟩
        go_wp2_with fail
        go_round
        case rel => exact ⟨k + 1, by omega, by go_num, by rw [HN.out, HAL.out, HL.out, H1.out]; rfl⟩
        case measure => simp [intOf]; omega
    · go_wp2_with fail
      go_ret
      have := HAL.out
      rw [List.take_of_length_le (by simp; omega)] at this
      exact ⟨ret_bool (by rw [Lx.allS, this]), rfl⟩



/-- A letter at hand is decoded as itself; another byte as a rune that is no letter. -/
theorem ascii_of_letter (c : UInt8) (h : Lx.letter c = true) : c.toNat < 128 := by
  have := letter_in c
  rw [h] at this
  simp at this
  omega
theorem not_letter_rune (s : ByteArray) (k : Nat) (h : k < s.size) (hl : Lx.letter s[k] = false) :
    ¬ (97 ≤ ((Utf8.decode s k).1 : Int) ∧ ((Utf8.decode s k).1 : Int) ≤ 122) ∧ ¬ (65 ≤ ((Utf8.decode s k).1 : Int) ∧ ((Utf8.decode s k).1 : Int) ≤ 90) := by
  by_cases ha : s[k].toNat < 128
  · rw [decode_ascii s k h ha]
    have := letter_in s[k]
    rw [hl] at this
    simp at this
    omega
  · have := decode_high s k h (by omega)
    omega
theorem not_small_rune (s : ByteArray) (k : Nat) (h : k < s.size) (hl : Lx.small s[k] = false) :
    ¬ (97 ≤ ((Utf8.decode s k).1 : Int) ∧ ((Utf8.decode s k).1 : Int) ≤ 122) := by
  by_cases ha : s[k].toNat < 128
  · rw [decode_ascii s k h ha]
    have := small_in s[k]
    rw [hl] at this
    simp at this
    omega
  · have := decode_high s k h (by omega)
    omega


theorem ascii_of_small (c : UInt8) (h : Lx.small c = true) : c.toNat < 128 := by
  have := small_in c
  rw [h] at this
  simp at this
  omega


end Go.Proofs.YtkmimjngmfdpmaaGreatDoor
