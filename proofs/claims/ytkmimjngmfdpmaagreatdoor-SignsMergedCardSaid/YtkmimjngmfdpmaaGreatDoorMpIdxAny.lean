/- strings.IndexAny and ContainsAny with ASCII to look for, in whatever text. -/
import Derived.Test.YtkmimjngmfdpmaaGreatDoorMpShelfI
import Derived.Test.YtkmimjngmfdpmaaGreatDoorMpTrimPlain
import Derived.Test.YtkmimjngmfdpmaaGreatDoorMpLeaf
import Derived.Test.YtkmimjngmfdpmaaGreatDoorMpRegion
import Derived.Deep.DeepCutAuto
import Derived.Deep.LoopGhost
import Derived.Deep.QuietTactic
import Derived.BigQuiet
import Derived.Deep.Light
import Derived.Lib.OthersKept
namespace Go.Proofs.YtkmimjngmfdpmaaGreatDoor
open Go Go.RowKit

def AscB (l : List UInt8) : Prop := ∀ b ∈ l, b.toNat < 128
theorem idxByte_high {c : UInt8} (hc : 128 ≤ c.toNat) : ∀ {l : List UInt8}, AscB l → Lib.indexByte l c = -1
  | [], _ => rfl
  | b :: l, h => by
    have hb : b.toNat < 128 := h b (by simp)
    have hne : (b == c) = false := by rw [beq_eq_false_iff_ne]; rintro rfl; omega
    rw [Lib.indexByte, hne, idxByte_high hc (l := l) fun x hx => h x (by simp [hx])]
    rfl
def RetNo (w : World) (e : Ending) (w' : World) : Prop := e = .returned (.int .i64 (-1)) ∧ Below w.heap.size w w'
set_option maxRecDepth 100000 in
set_option maxHeartbeats 4000000 in
theorem idxRune_high (chars : ByteArray) (r : Int) (w : World) (hasc : AscB chars.data.toList) (h0 : 1 ≤ chars.size) (h16 : chars.size ≤ 16) (hr : 128 ≤ r) (hr' : r ≤ 2147483647) : Calls Tryz.prog 106 #[.string chars, .int .i32 r] w (RetNo w) := by
  have HA := Lib.hid hasc
  have i1 : ¬ r < 128 := by omega
  have i2 : (0 : Int) ≤ r := by omega
  clear hasc
  by_cases he : r = 65533
  · subst he
    go_enter Tryz.func106, Tryz.ntmps106
    go_wp2_with fail
    go_loopg [5, 6] chars.size (fun g _ _ wx => ∃ i : Nat, i + g = chars.size ∧ wx = w.iter chars i)
    case atStart => exact ⟨0, by omega, rfl⟩
    case round =>
      obtain ⟨i, hig, rfl⟩ := hrel
      cases gk with
      | zero =>
        obtain rfl : i = chars.size := by omega
        have hnx := run_next_end (P := Tryz.prog) w chars chars.size
        go_wp2_with fail
        go_ret
        exact ⟨rfl, (Below.refl _ _).alloc (Nat.le_refl _) _⟩
      | succ g =>
        have hi : i < chars.size := by omega
        obtain ⟨x, hx⟩ : ∃ x : UInt8, chars[i]'hi = x := ⟨_, rfl⟩
        have hx128 : x.toNat < 128 := HA.out x (by
          rw [← hx]
          exact List.mem_of_getElem? (Lib.data_getElem? chars i hi))
        have hnx := fun ty => run_next_ascii (P := Tryz.prog) w chars i ty hi (by rw [hx]; exact hx128)
        rw [hx] at hnx
        have hne : ((x.toNat : Int) == 65533) = false := by rw [beq_eq_false_iff_ne]; omega
        clear hx
        go_wp2_with fail
        go_roundg g
        case measure => omega
        case rel => exact ⟨i + 1, by omega, rfl⟩
  · have hne : (r == 65533) = false := by rw [beq_eq_false_iff_ne]; exact he
    cases hv : Lib.validRune r
    · have HV := Lib.hid hv
      clear hv he
      go_enter Tryz.func106, Tryz.ntmps106
      go_wp2_with (go_at_call 134; refine (Tryz.utf8_ValidRune r _).mono ?_; rw [HV.out]; rintro e w1 ⟨rfl, rfl⟩)
      go_ret
      exact ⟨rfl, Below.refl _ _⟩
    · have HV := Lib.hid hv
      clear hv he
      go_enter Tryz.func106, Tryz.ntmps106
      go_wp2_with (go_at_call 134; refine (Tryz.utf8_ValidRune r _).mono ?_; rw [HV.out]; rintro e w1 ⟨rfl, rfl⟩)
      obtain ⟨h1, h4, hall⟩ := encode_high r hr
      go_step3
      go_wp2_with fail
      generalize Utf8.encode r = R at h1 h4 hall ⊢
      obtain ⟨m, hm⟩ : ∃ m : Nat, R.size = m + 1 := ⟨R.size - 1, by omega⟩
      have hw : ((R.size : Int) - 1) = (m : Int) := by omega
      rw [hw]
      have hmR : m < R.size := by omega
      have hmI : (m : Int) < (R.size : Int) := by omega
      have hm0 : (0 : Int) ≤ (m : Int) := by omega
      have hRm : 128 ≤ (R[m]'hmR).toNat := hall _ (List.mem_of_getElem? (Lib.data_getElem? R m hmR))
      generalize hrm : R[m]'hmR = rm at hRm
      have HIB : Hid (∀ l : List UInt8, AscB l → Lib.indexByte l rm = -1) := Lib.hid fun l hl => idxByte_high hRm hl
      clear hw hall h1 h4
      by_cases hlt : m < chars.size
      · have hcm : (chars[m]'hlt).toNat < 128 := HA.out _ (List.mem_of_getElem? (Lib.data_getElem? chars m hlt))
        generalize hcx : chars[m]'hlt = cm at hcm
        have hne2 : ((cm.toNat : Int) == (rm.toNat : Int)) = false := by rw [beq_eq_false_iff_ne]; omega
        have hmC : (m : Int) < (chars.size : Int) := by omega
        refine wp_loop_rounds 1 ?_
        rw [rounds_succ]
        go_wp2_with fail
        go_step3
        go_wp2_with fail
        go_quiet (fail)
        have HX : Hid (∀ W, Calls Tryz.prog 133 #[.string (chars.extract (m + 1) chars.size), .int .u8 (rm.toNat : Int)] W (fun e w' => e = .returned (.int .i64 (-1)) ∧ w' = W)) := Lib.hid fun W => by
          have := Tryz.strings_IndexByte (chars.extract (m + 1) chars.size) (rm.toNat : Int) W
          have hback : ((rm.toNat : Int)).toNat.toUInt8 = rm := by simp
          rw [hback, HIB.out] at this
          · exact this
          · intro b hb
            refine HA.out b ?_
            rw [Lib.extract_data] at hb
            exact List.mem_of_mem_drop (List.mem_of_mem_take hb)
        have hm2 : (m : Int) + 1 ≤ (chars.size : Int) := by omega
        have hm3 : (0 : Int) ≤ (m : Int) + 1 := by omega
        have hm4 : (chars.size : Int) ≤ 16 := by omega
        have e1 : ((m : Int) + 1).toNat = m + 1 := by omega
        have e2 : ((chars.size : Int)).toNat = chars.size := by omega
        go_wp2_with fail
        generalize hwd : World.drewN _ _ = wd
        have HBD : Hid (Below w1.heap.size w1 wd) := Lib.hid (by rw [← hwd]; exact below_drewN (Below.refl _ _) _)
        clear hwd
        go_quiet ((go_at_call 133; exact Calls.quiet_of_same (HX.out _)))
        go_wp2_with fail
        go_ret
        exact ⟨rfl, below_drewN HBD.out _⟩
      · have hmC : ¬ (m : Int) < (chars.size : Int) := by omega
        refine wp_loop_rounds 1 ?_
        rw [rounds_succ]
        go_wp2_with fail
        go_ret
        exact ⟨rfl, Below.refl _ _⟩
theorem below_iterAt {B : Nat} {a w : World} (h : Below B a w) {k : Nat} (hk : B ≤ k) (s : ByteArray) (p : Nat) : Below B a (w.iterAt k s p) :=
  h.trans ⟨rfl, rfl, rfl, by simp [World.iterAt], fun i hi => by simp only [World.iterAt]; rw [Array.getElem?_setIfInBounds_ne (by omega)]⟩
theorem noAny_skip {s : ByteArray} {l : List UInt8} {i n : Nat} (h : Lib.NoAny s.data.toList l i) (hl : AscB l) (hn : ∀ j (hj : j < s.size), i ≤ j → j < n → 128 ≤ (s[j]'hj).toNat) : Lib.NoAny s.data.toList l n := fun j b hj hb => by
  by_cases hji : j < i
  · exact h j b hji hb
  · have hlt : j < s.size := by
      have := (List.getElem?_eq_some_iff.1 hb).1
      simpa using this
    have h1 := hn j hlt (by omega) hj
    rw [Lib.data_getElem? s j hlt] at hb
    cases hb
    cases hc : l.contains (s[j]'hlt)
    · rfl
    · have := hl _ (List.contains_iff_mem.1 hc)
      omega
set_option maxRecDepth 100000 in
set_option maxHeartbeats 4000000 in
theorem idxAny_short (s chars : ByteArray) (w : World) (hasc : AscB chars.data.toList) (h2 : 2 ≤ chars.size) (h16 : chars.size ≤ 16) (h8 : s.size ≤ 8) : Calls Tryz.prog 76 #[.string s, .string chars] w (RetIB (Lib.indexAny s.data.toList chars.data.toList) w) := by
  have HA := Lib.hid hasc
  have hemp : chars.toList.isEmpty = false := by
    rw [Lib.toList_data]
    cases h : chars.data.toList with
    | nil => have := Lib.size_eq chars; rw [h, List.length_nil] at this; omega
    | cons _ _ => rfl
  have hn1 : ((chars.size : Int) == 1) = false := beq_eq_false_iff_ne.2 (by omega)
  have h8z : decide ((8 : Int) < (s.size : Int)) = false := decide_eq_false (by omega)
  have HUS : Hid (∀ W, Calls Tryz.prog 107 #[.int .i64 (s.size : Int)] W (RetB false W)) := Lib.hid fun W => by
    have := Tryz.strings_shouldUseASCIISet (s.size : Int) W
    rw [h8z] at this
    exact this.mono fun e w1 h => ⟨h.1, h.2.symm⟩
  clear hasc
  go_enter Tryz.func76, Tryz.ntmps76
  go_wp2_with (go_at_call 107; refine (HUS.out _).mono ?_; rintro e w1 ⟨rfl, rfl⟩)
  rename World => w0
  go_loopg [9, 10] s.size (fun g _ _ wx => ∃ i : Nat, i ≤ s.size ∧ g = s.size - i ∧ Below w0.heap.size w0 wx ∧ wx.heap[w0.heap.size]? = some (.stringIter s i) ∧ Lib.NoAny s.data.toList chars.data.toList i)
  case atStart => exact ⟨0, Nat.zero_le _, rfl, (Below.refl _ _).alloc (Nat.le_refl _) _, World.iter_heap _ _ _, Lib.NoAny.zero _ _⟩
  case round =>
    obtain ⟨i, hi, rfl, hbel, hit, hno⟩ := hrel
    have HB := Lib.hid hbel
    have HN := Lib.hid hno
    have HI := Lib.hid hit
    have hsz : w0.heap.size < wr.heap.size := (Array.getElem?_eq_some_iff.1 hit).1
    clear hno hbel
    by_cases hlt : i < s.size
    · obtain ⟨x, hx⟩ : ∃ x : UInt8, s[i]'hlt = x := ⟨_, rfl⟩
      have hxl : s.data.toList[i]? = some x := by rw [← hx]; exact Lib.data_getElem? s i hlt
      have HX := Lib.hid hxl
      by_cases hx128 : x.toNat < 128
      · have hnx := fun ty => Lib.run_next_ascii_at (P := Tryz.prog) wr w0.heap.size s i ty hit hlt (by rw [hx]; exact hx128)
        rw [hx] at hnx
        have HB1 := Lib.hid (below_iterAt HB.out (Nat.le_refl _) s (i + 1))
        have HI1 : Hid ((wr.iterAt w0.heap.size s (i + 1)).heap[w0.heap.size]? = some (.stringIter s (i + 1))) := Lib.hid (Lib.iterAt_heap _ _ _ _ _ hit)
        have hcon := Lib.contains_iff_indexByte chars.data.toList x
        have HIR : Hid (∀ W, Calls Tryz.prog 106 #[.string chars, .int .i32 (x.toNat : Int)] W (fun e w' => e = .returned (.int .i64 (Lib.indexByte chars.data.toList x)) ∧ w' = W)) := Lib.hid fun W => by
          have := Tryz.strings_IndexRune_ascii chars (x.toNat : Int) W (by omega) (by omega)
          have hback : ((x.toNat : Int)).toNat.toUInt8 = x := by simp
          rwa [hback] at this
        generalize Lib.indexByte chars.data.toList x = q at hcon HIR
        clear hx hxl hit
        cases hin : chars.data.toList.contains x
        · rw [hin] at hcon
          have hq : ¬ ((0 : Int) ≤ q) := of_decide_eq_false hcon.symm
          have HIN := Lib.hid hin
          clear hcon hin
          go_wp2_with (go_at_call 106; refine (HIR.out _).mono ?_; rintro e w1 ⟨rfl, rfl⟩)
          go_roundg (s.size - (i + 1))
          case measure => omega
          case rel => exact ⟨i + 1, by omega, rfl, HB1.out, HI1.out, HN.out.succ HX.out HIN.out⟩
        · rw [hin] at hcon
          have hq : (0 : Int) ≤ q := of_decide_eq_true hcon.symm
          have HRES := Lib.hid (Lib.indexAny_hit HN.out HX.out hin)
          clear hcon hin
          go_wp2_with (go_at_call 106; refine (HIR.out _).mono ?_; rintro e w1 ⟨rfl, rfl⟩)
          go_ret
          exact ⟨ret_int HRES.out.symm, HB1.out⟩
      · have hx128' : 128 ≤ (s[i]'hlt).toNat := by rw [hx]; omega
        have hnx := fun ty => Lib.run_next_any_at (P := Tryz.prog) wr w0.heap.size s i ty hit hlt
        obtain ⟨hd1, hd2⟩ := decode_high s i hlt hx128'
        have hd3 := decode_le s i
        obtain ⟨hs1, hs2⟩ := decode_skip s i hlt hx128'
        obtain ⟨rn, hrn⟩ : ∃ rn, rn = (Utf8.decode s i).1 := ⟨_, rfl⟩
        obtain ⟨n, hn⟩ : ∃ n, n = i + (Utf8.decode s i).2 := ⟨_, rfl⟩
        rw [← hrn] at hd1 hd3 hnx
        rw [← hn] at hs1 hs2 hnx
        have hin : i < n := by omega
        have HB1 := Lib.hid (below_iterAt HB.out (Nat.le_refl _) s n)
        have HI1 : Hid ((wr.iterAt w0.heap.size s n).heap[w0.heap.size]? = some (.stringIter s n)) := Lib.hid (Lib.iterAt_heap _ _ _ _ _ hit)
        have HN1 := Lib.hid (noAny_skip HN.out HA.out hs2)
        have HIR : Hid (∀ W, Calls Tryz.prog 106 #[.string chars, .int .i32 (rn : Int)] W (RetNo W)) := Lib.hid fun W => idxRune_high chars rn W HA.out (by omega) h16 (by omega) (by omega)
        have hszn : (wr.iterAt w0.heap.size s n).heap.size = wr.heap.size := by simp [World.iterAt]
        have HSZ := Lib.hid hszn
        clear hx hxl hit hrn hn hs2 hx128' hszn
        go_wp2_with (go_at_call 106; refine (HIR.out _).mono ?_; rintro e w1 ⟨rfl, hb1⟩; have HB2 := Lib.hid (HB1.out.trans (hb1.mono (by rw [HSZ.out]; omega))); have HI2 := Lib.hid ((hb1.block _ (by rw [HSZ.out]; omega)).trans HI1.out); clear hb1)
        go_roundg (s.size - n)
        case measure => omega
        case rel => exact ⟨n, by omega, rfl, HB2.out, HI2.out, HN1.out⟩
    · obtain rfl : i = s.size := by omega
      have hnx := fun ty => Lib.run_next_end_at (P := Tryz.prog) wr w0.heap.size s s.size ty hit (by omega)
      have HRES := Lib.hid (Lib.indexAny_none (s := s.data.toList) (chars := chars.data.toList) (by rw [← Lib.size_eq]; exact HN.out))
      clear hit
      go_wp2_with fail
      go_ret
      exact ⟨ret_int HRES.out.symm, HB.out⟩
theorem idxAny_any (s chars : ByteArray) (w : World) (hasc : AscB chars.data.toList) (h2 : 2 ≤ chars.size) (h16 : chars.size ≤ 16) (hs : s.size ≤ 1000000) : Calls Tryz.prog 76 #[.string s, .string chars] w (RetIB (Lib.indexAny s.data.toList chars.data.toList) w) := by
  by_cases h8 : s.size ≤ 8
  · exact idxAny_short s chars w hasc h2 h16 h8
  · refine (Tryz.strings_IndexAny_long (zero_of_info (v := .agg (Array.replicate 256 (.bool false))) (n := 256) (by kernel_rfl)).1 s chars w h2 (by omega) (by omega) (by omega) fun j b hb => hasc b (List.mem_of_getElem? hb)).mono ?_
    rintro e w1 ⟨rfl, rfl⟩
    exact ⟨rfl, ((Below.refl _ _).alloc (Nat.le_refl _) _).alloc (by simp) _⟩
set_option maxRecDepth 100000 in
set_option maxHeartbeats 4000000 in
theorem contAny_any (s chars : ByteArray) (w : World) (hasc : AscB chars.data.toList) (h2 : 2 ≤ chars.size) (h16 : chars.size ≤ 16) (hs : s.size ≤ 1000000) : Calls Tryz.prog 131 #[.string s, .string chars] w (RetBB (Lib.containsAny s.data.toList chars.data.toList) w) := by
  have HI := Lib.hid (idxAny_any s chars w hasc h2 h16 hs)
  have HC : Hid (Lib.containsAny s.data.toList chars.data.toList = decide (0 ≤ Lib.indexAny s.data.toList chars.data.toList)) := Lib.hid rfl
  clear hasc
  generalize Lib.indexAny s.data.toList chars.data.toList = q at HI HC
  go_enter Tryz.func131, Tryz.ntmps131
  go_wp2_with fail
  refine HI.out.mono ?_
  rintro e w1 ⟨rfl, hb⟩
  have HB := Lib.hid hb
  clear hb
  go_wp2_with fail
  go_ret
  exact ⟨ret_bool HC.out.symm, HB.out⟩
end Go.Proofs.YtkmimjngmfdpmaaGreatDoor
