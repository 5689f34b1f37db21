/- lexicon.number: a decimal number of at most four digits. signs.number: a decimal number of at most three digits. Made by gen_gnum.py. Runes beyond ASCII: no byte of theirs is ASCII.; DERIVED: THE SHELF's CONTRACTS AT THIS DUMP, IN PLAIN WORDS (tools/lay-plain.mjs out of 'TryzShelf.lean', which tools/lay-shelf.mjs wrote): THE SAME DECLARATIONS UNDER THE SAME NAMES: 'import', 'namespace', 'open', .. -/
import Derived.Test.YtkmimjngmfdpmaaGreatDoorMpTrimPlain
import Derived.Test.YtkmimjngmfdpmaaGreatDoorMpShelfQ
import Derived.Shelf.Strings.SlTrimAscii
import Derived.Lib.AtoiErrMem
import Derived.Test.YtkmimjngmfdpmaaGreatDoorMpTextPlain
import Derived.Laws.RangeAny
import Derived.Lib.IndexAny
import Derived.Shelf.Small.Utf8
import Derived.Shelf.Small.Strs
import Derived.Shelf.LaysM
import Derived.Shelf.Strings.Runes
import Derived.Shelf.Strings.IndexAny
import Derived.Shelf.Strings.IndexAnyAll
import Derived.Ground.Names2Prog
import Derived.Test.YtkmimjngmfdpmaaGreatDoorProg
namespace Go.Proofs.YtkmimjngmfdpmaaGreatDoor
open Go Go.RowKit

def RetNBB (n : Int) (b : Bool) (w : World) (e : Ending) (w' : World) : Prop := e = .returned (.tuple #[.int .i64 n, .bool b]) ∧ Below w.heap.size w w'
theorem trimDig_any (s : ByteArray) (w : World) (hs : s.size ≤ 1000000) : Calls Tryz.prog 78 #[.string s, .string ⟨#[48, 49, 50, 51, 52, 53, 54, 55, 56, 57]⟩] w (fun e w' => ∃ u : ByteArray, e = .returned (.string u) ∧ (u.data.toList = [] ↔ s.data.toList.all Lx.digB = true) ∧ Below w.heap.size w w') := by
  refine (Any.strings_Trim_laid Tryz.lays160 (by kernel_rfl) s ⟨#[48, 49, 50, 51, 52, 53, 54, 55, 56, 57]⟩ w (by omega) (by decide) (ascii_of_all (by decide))).mono ?_
  rintro e w' ⟨rfl, hb⟩
  exact ⟨_, rfl, Lx.trim_dig _, hb⟩

end Go.Proofs.YtkmimjngmfdpmaaGreatDoor
namespace Go.Proofs.YtkmimjngmfdpmaaGreatDoor
open Go Go.RowKit

set_option maxRecDepth 100000 in
set_option maxHeartbeats 2000000 in
theorem gNumber_any (s : ByteArray) (w : World) (hs : s.size ≤ 1000000) : Calls Tryz.prog 59 #[.string s] w (RetNBB (Lx.numV s.data.toList 3) (Lx.numB s.data.toList 3) w) := by
  have hlen : s.data.toList.length = s.size := rfl
  by_cases hg : 1 ≤ s.size ∧ s.size ≤ 3
  · obtain ⟨hg1, hg2⟩ := hg
    have h0 : 0 < s.size := hg1
    have a1' : ¬ (s.size : Int) < 1 := by omega
    have a2' : ¬ 3 < (s.size : Int) := by omega
    have hz : s.data.toList[0]? = some s[0] := by rw [List.getElem?_eq_getElem (by rw [hlen]; exact h0)]; rfl
    by_cases hc : s[0] = 48 ∧ 1 < s.size
    · have HN : Hid (Lx.numB s.data.toList 3 = false) := Lib.hid (by
        unfold Lx.numB
        rw [hz, hc.1, hlen]
        simp [hc.2])
      have HV : Hid (Lx.numV s.data.toList 3 = 0) := Lib.hid (by unfold Lx.numV; rw [HN.out]; rfl)
      have b1 : (s[0].toNat : Int) = 48 := by rw [hc.1]; rfl
      have b2 : (s.toList == [48]) = false := by
        rw [beq_eq_false_iff_ne, Go.Lib.toList_data]
        intro e
        have := congrArg List.length e
        rw [hlen] at this
        simp at this
        omega
      clear hz hc
      go_enter Tryz.func59, Tryz.ntmps59
      go_wp2_with fail
      go_ret2
      exact ⟨ret_nb HV.out.symm HN.out.symm, Below.refl _ _⟩
    · have hcc : ¬ (s[0].toNat : Int) = 48 ∨ ((s[0].toNat : Int) = 48 ∧ s.toList = [48]) := by
        by_cases q : s[0] = 48
        · refine .inr ⟨by rw [q]; rfl, ?_⟩
          have h1 : s.size = 1 := by have : ¬ 1 < s.size := fun q2 => hc ⟨q, q2⟩; omega
          rw [Go.Lib.toList_data]
          cases e : s.data.toList with
          | nil => rw [e] at hz; cases hz
          | cons a r =>
            rw [e] at hz hlen
            simp at hz hlen
            have : r = [] := List.length_eq_zero_iff.1 (by omega)
            rw [this, hz, q]
        · left
          intro e
          exact q (UInt8.toNat_inj.1 (by have : (48 : UInt8).toNat = 48 := rfl; omega))
      have HNB : Hid (Lx.numB s.data.toList 3 = s.data.toList.all Lx.digB) := Lib.hid (by
        have e : (decide (s[0] = 48) && decide (1 < s.size)) = false := by
          rw [Bool.and_eq_false_iff, decide_eq_false_iff_not, decide_eq_false_iff_not]
          by_cases q : s[0] = 48
          · exact .inr fun q2 => hc ⟨q, q2⟩
          · exact .inl q
        have e2 : (decide (1 ≤ s.size) && decide ((s.size : Int) ≤ 3)) = true := by simp; omega
        unfold Lx.numB
        rw [hz, hlen, e2]
        simp only [Option.some.injEq, e]
        simp)
      have HNE : Hid (s.data.toList ≠ []) := Lib.hid fun e => by rw [e] at hlen; simp at hlen; omega
      clear hz hc
      rcases hcc with hq | ⟨hq, hq1⟩ <;> (
      go_enter Tryz.func59, Tryz.ntmps59
      go_wp2_with fail
      refine (trimDig_any s _ hs).mono ?_
      rintro e w1 ⟨u, rfl, hu, hb⟩
      have HB := Lib.hid hb
      clear hb
      cases hd : s.data.toList.all Lx.digB
      · have hne : u.toList.isEmpty = false := by
          rw [Go.Lib.toList_data]
          cases e : u.data.toList with
          | nil => have := hu.1 e; rw [hd] at this; cases this
          | cons a r => rfl
        have HN : Hid (Lx.numB s.data.toList 3 = false) := Lib.hid (by rw [HNB.out, hd])
        have HV : Hid (Lx.numV s.data.toList 3 = 0) := Lib.hid (by unfold Lx.numV; rw [HN.out]; rfl)
        clear hu hd
        go_wp2_with fail
        go_ret2
        exact ⟨ret_nb HV.out.symm HN.out.symm, HB.out⟩
      · have hne : u.toList.isEmpty = true := by rw [Go.Lib.toList_data, hu.2 hd]; rfl
        have HN : Hid (Lx.numB s.data.toList 3 = true) := Lib.hid (by rw [HNB.out, hd])
        have HV : Hid (Lx.numV s.data.toList 3 = Lx.digV s.data.toList) := Lib.hid (by unfold Lx.numV; rw [HN.out]; rfl)
        have HA := Lib.hid (Lx.atoi_dig HNE.out hd)
        clear hu hd
        go_wp2_with fail
        refine (Tryz.strconv_Atoi s _ (by omega) HA.out _).mono ?_
        rintro e w2 ⟨rfl, t', rfl⟩
        have HB2 := Lib.hid (HB.out.trans ((Go.Lib.bytesWorld_below w1 5 t').mono HB.out.size))
        go_wp2_with fail
        go_region
        go_wp2_with fail
        go_ret2
        exact ⟨ret_nb HV.out.symm HN.out.symm, HB2.out.drew⟩)
  · have HB : Hid (Lx.numB s.data.toList 3 = false) := Lib.hid (by
      unfold Lx.numB
      rw [hlen]
      have : (decide (1 ≤ s.size) && decide ((s.size : Int) ≤ 3)) = false := by simp; omega
      rw [this]
      rfl)
    have HV : Hid (Lx.numV s.data.toList 3 = 0) := Lib.hid (by unfold Lx.numV; rw [HB.out]; rfl)
    by_cases hz : (s.size : Int) < 1
    · clear hg
      go_enter Tryz.func59, Tryz.ntmps59
      go_wp2_with fail
      go_ret2
      exact ⟨ret_nb HV.out.symm HB.out.symm, Below.refl _ _⟩
    · have hm' : 3 < (s.size : Int) := by omega
      clear hg
      go_enter Tryz.func59, Tryz.ntmps59
      go_wp2_with fail
      go_ret2
      exact ⟨ret_nb HV.out.symm HB.out.symm, Below.refl _ _⟩
end Go.Proofs.YtkmimjngmfdpmaaGreatDoor
namespace Go.Proofs.YtkmimjngmfdpmaaGreatDoor
open Go

theorem decode_skip (s : ByteArray) (pos : Nat) (h : pos < s.size) (ha : 128 ≤ (s[pos]'h).toNat) :
    pos + (Utf8.decode s pos).2 ≤ s.size ∧ ∀ j (hj : j < s.size), pos ≤ j → j < pos + (Utf8.decode s pos).2 → 128 ≤ (s[j]'hj).toNat := by
  have key : ∃ n, (Utf8.decode s pos).2 = n + 1 ∧ ∀ k, 1 ≤ k → k ≤ n → pos + k < s.size ∧ (s.get! (pos + k)).toNat / 64 = 2 := by
    have hn : ¬ (s[pos]'h).toNat < 128 := by omega
    simp only [Utf8.decode, get_at s pos h, hn, if_false]
    split
    · rename_i h1
      simp only [Bool.and_eq_true, decide_eq_true_eq, beq_iff_eq] at h1
      split
      · exact ⟨1, rfl, fun k hk hk' => by
          obtain rfl : k = 1 := by omega
          exact h1.2⟩
      · exact ⟨0, rfl, fun k hk hk' => by omega⟩
    · split
      · rename_i h1
        simp only [Bool.and_eq_true, decide_eq_true_eq, beq_iff_eq] at h1
        split
        · exact ⟨2, rfl, fun k hk hk' => by
            rcases (by omega : k = 1 ∨ k = 2) with rfl | rfl
            · exact h1.1.2
            · exact h1.2⟩
        · exact ⟨0, rfl, fun k hk hk' => by omega⟩
      · split
        · rename_i h1
          simp only [Bool.and_eq_true, decide_eq_true_eq, beq_iff_eq] at h1
          split
          · exact ⟨3, rfl, fun k hk hk' => by
              rcases (by omega : k = 1 ∨ k = 2 ∨ k = 3) with rfl | rfl | rfl
              · exact h1.1.1.2
              · exact h1.1.2
              · exact h1.2⟩
          · exact ⟨0, rfl, fun k hk hk' => by omega⟩
        · exact ⟨0, rfl, fun k hk hk' => by omega⟩
  obtain ⟨n, hn, hk⟩ := key
  rw [hn]
  constructor
  · rcases Nat.eq_zero_or_pos n with rfl | hp
    · omega
    · have := (hk n hp (Nat.le_refl _)).1
      omega
  · intro j hj h1 h2
    rcases Nat.eq_or_lt_of_le h1 with rfl | h3
    · exact ha
    · obtain ⟨k, rfl⟩ : ∃ k, j = pos + k := ⟨j - pos, by omega⟩
      have h4 := (hk k (by omega) (by omega)).2
      have e : s.get! (pos + k) = s[pos + k]'hj := get_at s (pos + k) hj
      rw [e] at h4
      omega
theorem encode_high (r : Int) (h : 128 ≤ r) : 1 ≤ (Utf8.encode r).size ∧ (Utf8.encode r).size ≤ 4 ∧ ∀ b ∈ (Utf8.encode r).data.toList, 128 ≤ b.toNat := by
  have hv : ∀ c : Nat, 128 ≤ c → c ≤ 1114111 → ∀ e : ByteArray, e = (if c < 0x80 then ⟨#[UInt8.ofNat c]⟩
      else if c < 0x800 then ⟨#[UInt8.ofNat (0xC0 + c / 64), UInt8.ofNat (0x80 + c % 64)]⟩
      else if c < 0x10000 then ⟨#[UInt8.ofNat (0xE0 + c / 4096), UInt8.ofNat (0x80 + c / 64 % 64), UInt8.ofNat (0x80 + c % 64)]⟩
      else ⟨#[UInt8.ofNat (0xF0 + c / 262144), UInt8.ofNat (0x80 + c / 4096 % 64), UInt8.ofNat (0x80 + c / 64 % 64), UInt8.ofNat (0x80 + c % 64)]⟩) → 1 ≤ e.size ∧ e.size ≤ 4 ∧ ∀ b ∈ e.data.toList, 128 ≤ b.toNat := by
    intro c hc hc' e he
    rw [if_neg (by omega)] at he
    split at he
    · subst he
      refine ⟨by simp [ByteArray.size], by simp [ByteArray.size], fun b hb => ?_⟩
      simp only [List.mem_cons, List.not_mem_nil, or_false] at hb
      rcases hb with rfl | rfl <;> (rw [UInt8.toNat_ofNat']; omega)
    · split at he
      · subst he
        refine ⟨by simp [ByteArray.size], by simp [ByteArray.size], fun b hb => ?_⟩
        simp only [List.mem_cons, List.not_mem_nil, or_false] at hb
        rcases hb with rfl | rfl | rfl <;> (rw [UInt8.toNat_ofNat']; omega)
      · subst he
        refine ⟨by simp [ByteArray.size], by simp [ByteArray.size], fun b hb => ?_⟩
        simp only [List.mem_cons, List.not_mem_nil, or_false] at hb
        rcases hb with rfl | rfl | rfl | rfl <;> (rw [UInt8.toNat_ofNat']; omega)
  refine hv (if Utf8.valid r then r.toNat else Utf8.runeError) ?_ ?_ _ rfl
  · split
    · omega
    · decide
  · split
    · rename_i hh
      simp [Utf8.valid] at hh
      omega
    · decide
end Go.Proofs.YtkmimjngmfdpmaaGreatDoor
namespace Go.Proofs
open Go.Shelf
def Tryz.lays119_ren : Go.Shelf.Ren := ⟨fun | 119 => 134 | n => n, fun | 21 => 21 | 4 => 4 | n => n, fun | n => n⟩
theorem Tryz.lays119 : Go.Proofs.Lays.n119 Tryz.prog Tryz.lays119_ren := {
  mixed := by kernel_rfl
  f119 := Tryz.func134.trans (congrArg some (by kernel_rfl))
  t4 := Tryz.underlying4
  a4 := Tryz.isAgg4
  z4 := Tryz.sizeOf4
  v4 := Tryz.zeroValue4
  t21 := Tryz.underlying21
  a21 := Tryz.isAgg21
  z21 := Tryz.sizeOf21
  v21 := Tryz.zeroValue21 }
/-- utf8.ValidRune: "ValidRune reports whether r can be legally encoded as UTF-8. Code points that are out of range or a surrogate half are illegal.": IT RETURNS 'Lib.validRune r'; the world is as it was. (LAID: no walk: one application.) -/
theorem Tryz.utf8_ValidRune (r : Int) (w : World) :
    Calls Tryz.prog 134 #[.int .i32 r] w fun e w' => e = .returned (.bool (Lib.validRune r)) ∧ w' = w := Any.utf8_ValidRune Tryz.lays119 r w
def Tryz.lays137_ren : Go.Shelf.Ren := ⟨fun | 137 => 133 | 217 => 160 | 266 => 183 | n => n, fun | 9 => 9 | 5 => 5 | 3 => 3 | n => n, fun | n => n⟩
theorem Tryz.lays137 : Go.Proofs.Lays.n137 Tryz.prog Tryz.lays137_ren := {
  mixed := by kernel_rfl
  f137 := Tryz.func133.trans (congrArg some (by kernel_rfl))
  f217 := Tryz.func160.trans (congrArg some (by kernel_rfl))
  f266 := Tryz.func183.trans (congrArg some (by kernel_rfl))
  t3 := Tryz.underlying3
  a3 := Tryz.isAgg3
  z3 := Tryz.sizeOf3
  v3 := Tryz.zeroValue3
  t5 := Tryz.underlying5
  a5 := Tryz.isAgg5
  z5 := Tryz.sizeOf5
  v5 := Tryz.zeroValue5
  t9 := Tryz.underlying9
  a9 := Tryz.isAgg9
  z9 := Tryz.sizeOf9
  v9 := Tryz.zeroValue9 }
open Go.RowKit in
/-- strings.IndexByte: "IndexByte returns the index of the first instance of c in s, or -1 if c is not present in s.": IT RETURNS 'Lib.indexByte s c'; the world is as it was. (LAID: no walk: one application.) -/
theorem Tryz.strings_IndexByte (s : ByteArray) (c : Int) (w : World) :
    Calls Tryz.prog 133 #[.string s, .int .u8 c] w fun e w' => e = .returned (.int .i64 (Lib.indexByte s.data.toList c.toNat.toUInt8)) ∧ w' = w := Any.strings_IndexByte Tryz.lays137 s c w
def Tryz.lays152_ren : Go.Shelf.Ren := ⟨fun | 152 => 106 | 137 => 133 | 119 => 134 | 224 => 135 | 225 => 136 | 217 => 160 | 266 => 183 | n => n, fun | 9 => 9 | 21 => 21 | 3 => 3 | 4 => 4 | 5 => 5 | 0 => 0 | 46 => 147 | n => n, fun | n => n⟩
theorem Tryz.lays152 : Go.Proofs.Lays.n152 Tryz.prog Tryz.lays152_ren := {
  mixed := by kernel_rfl
  f119 := Tryz.func134.trans (congrArg some (by kernel_rfl))
  f137 := Tryz.func133.trans (congrArg some (by kernel_rfl))
  f152 := Tryz.func106.trans (congrArg some (by kernel_rfl))
  f217 := Tryz.func160.trans (congrArg some (by kernel_rfl))
  f224 := Tryz.func135.trans (congrArg some (by kernel_rfl))
  f225 := Tryz.func136.trans (congrArg some (by kernel_rfl))
  f266 := Tryz.func183.trans (congrArg some (by kernel_rfl))
  t0 := Tryz.underlying0
  a0 := Tryz.isAgg0
  z0 := Tryz.sizeOf0
  v0 := Tryz.zeroValue0
  t3 := Tryz.underlying3
  a3 := Tryz.isAgg3
  z3 := Tryz.sizeOf3
  v3 := Tryz.zeroValue3
  t4 := Tryz.underlying4
  a4 := Tryz.isAgg4
  z4 := Tryz.sizeOf4
  v4 := Tryz.zeroValue4
  t5 := Tryz.underlying5
  a5 := Tryz.isAgg5
  z5 := Tryz.sizeOf5
  v5 := Tryz.zeroValue5
  t9 := Tryz.underlying9
  a9 := Tryz.isAgg9
  z9 := Tryz.sizeOf9
  v9 := Tryz.zeroValue9
  t21 := Tryz.underlying21
  a21 := Tryz.isAgg21
  z21 := Tryz.sizeOf21
  v21 := Tryz.zeroValue21
  t46 := Tryz.underlying147
  a46 := Tryz.isAgg147
  z46 := Tryz.sizeOf147
  v46 := Tryz.zeroValue147 }
open Go.RowKit Go.Lib in
theorem Tryz.strings_IndexRune_ascii (s : ByteArray) (r : Int) (w : World) (h0 : 0 ≤ r) (h1 : r < 128) :
    Calls Tryz.prog 106 #[.string s, .int .i32 r] w fun e w' => e = .returned (.int .i64 (Lib.indexByte s.data.toList r.toNat.toUInt8)) ∧ w' = w := Any.strings_IndexRune_ascii Tryz.lays152 s r w h0 h1
def Tryz.lays226_ren : Go.Shelf.Ren := ⟨fun | 226 => 107 | n => n, fun | 3 => 3 | 4 => 4 | n => n, fun | n => n⟩
theorem Tryz.lays226 : Go.Proofs.Lays.n226 Tryz.prog Tryz.lays226_ren := {
  mixed := by kernel_rfl
  f226 := Tryz.func107.trans (congrArg some (by kernel_rfl))
  t3 := Tryz.underlying3
  a3 := Tryz.isAgg3
  z3 := Tryz.sizeOf3
  v3 := Tryz.zeroValue3
  t4 := Tryz.underlying4
  a4 := Tryz.isAgg4
  z4 := Tryz.sizeOf4
  v4 := Tryz.zeroValue4 }
open Go.RowKit Go.Lib in
theorem Tryz.strings_shouldUseASCIISet (n : Int) (w : World) :
    Calls Tryz.prog 107 #[.int .i64 n] w fun e w' => e = .returned (.bool (decide (8 < n))) ∧ w' = w := Any.strings_shouldUseASCIISet Tryz.lays226 n w
def Tryz.lays153_ren : Go.Shelf.Ren := ⟨fun | 153 => 76 | 152 => 106 | 226 => 107 | 227 => 108 | 228 => 109 | 137 => 133 | 119 => 134 | 224 => 135 | 225 => 136 | 217 => 160 | 266 => 183 | n => n, fun | 9 => 9 | 3 => 3 | 4 => 4 | 5 => 5 | 21 => 21 | 117 => 128 | 116 => 127 | 0 => 0 | 46 => 147 | 124 => 134 | n => n, fun | n => n⟩
theorem Tryz.lays153 : Go.Proofs.Lays.n153 Tryz.prog Tryz.lays153_ren := {
  mixed := by kernel_rfl
  f119 := Tryz.func134.trans (congrArg some (by kernel_rfl))
  f137 := Tryz.func133.trans (congrArg some (by kernel_rfl))
  f152 := Tryz.func106.trans (congrArg some (by kernel_rfl))
  f153 := Tryz.func76.trans (congrArg some (by kernel_rfl))
  f217 := Tryz.func160.trans (congrArg some (by kernel_rfl))
  f224 := Tryz.func135.trans (congrArg some (by kernel_rfl))
  f225 := Tryz.func136.trans (congrArg some (by kernel_rfl))
  f226 := Tryz.func107.trans (congrArg some (by kernel_rfl))
  f227 := Tryz.func108.trans (congrArg some (by kernel_rfl))
  f228 := Tryz.func109.trans (congrArg some (by kernel_rfl))
  f266 := Tryz.func183.trans (congrArg some (by kernel_rfl))
  t0 := Tryz.underlying0
  a0 := Tryz.isAgg0
  z0 := Tryz.sizeOf0
  v0 := Tryz.zeroValue0
  t3 := Tryz.underlying3
  a3 := Tryz.isAgg3
  z3 := Tryz.sizeOf3
  v3 := Tryz.zeroValue3
  t4 := Tryz.underlying4
  a4 := Tryz.isAgg4
  z4 := Tryz.sizeOf4
  v4 := Tryz.zeroValue4
  t5 := Tryz.underlying5
  a5 := Tryz.isAgg5
  z5 := Tryz.sizeOf5
  v5 := Tryz.zeroValue5
  t9 := Tryz.underlying9
  a9 := Tryz.isAgg9
  z9 := Tryz.sizeOf9
  v9 := Tryz.zeroValue9
  t21 := Tryz.underlying21
  a21 := Tryz.isAgg21
  z21 := Tryz.sizeOf21
  v21 := Tryz.zeroValue21
  t46 := Tryz.underlying147
  a46 := Tryz.isAgg147
  z46 := Tryz.sizeOf147
  v46 := Tryz.zeroValue147
  t116 := Tryz.underlying127
  a116 := Tryz.isAgg127
  z116 := Tryz.sizeOf127
  t117 := Tryz.underlying128
  a117 := Tryz.isAgg128
  z117 := Tryz.sizeOf128
  v117 := Tryz.zeroValue128
  t124 := Tryz.underlying134
  a124 := Tryz.isAgg134
  z124 := Tryz.sizeOf134
  v124 := Tryz.zeroValue134 }
open Go.RowKit Go.Lib in
theorem Tryz.strings_IndexAny_long (hv116 : ∀ w, (zeroValue 127).run Tryz.prog w = .ok (.agg (Array.replicate 256 (.bool false))) w) (s chars : ByteArray) (w : World) (h2 : 2 ≤ chars.size) (h8 : 8 < s.size) (hs : s.size < 4294967281) (hcs : chars.size < 4294967281) (hascii : ∀ (j : Nat) b, chars.data.toList[j]? = some b → b.toNat < 128) :
    Calls Tryz.prog 76 #[.string s, .string chars] w fun e w' => e = .returned (.int .i64 (Lib.indexAny s.data.toList chars.data.toList)) ∧ w' = ((w.alloc (.cells (Lib.setCells chars.data.toList) 127)).alloc (.cells (Lib.setCells chars.data.toList) 127)) := Any.strings_IndexAny_long Tryz.lays153 hv116 (by kernel_rfl) s chars w h2 h8 hs hcs hascii
end Go.Proofs
