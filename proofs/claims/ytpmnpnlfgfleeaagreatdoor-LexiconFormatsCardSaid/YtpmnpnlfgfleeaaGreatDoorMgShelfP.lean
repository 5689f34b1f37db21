/- lexicon.number: a decimal number of at most four digits. DERIVED: THE SHELF's CONTRACTS AT THIS DUMP, IN PLAIN WORDS (tools/lay-plain.mjs out of 'TryzShelf.lean', which tools/lay-shelf.mjs wrote): THE SAME DECLARATIONS UNDER THE SAME NAMES: 'import', 'namespace', 'open', 'def', 'theorem' AND NOTHING ELSE: no command of the shelf's: FOR A HAND-IN. Each laying: the table of numbers ('.._ren') and one theorem, a field a fact of the dump's own or the kernel's comparison; each contract: ONE APPLICATION. -/
import Derived.Test.YtpmnpnlfgfleeaaGreatDoorMgNumber
import Derived.Test.YtpmnpnlfgfleeaaGreatDoorMgShelfQ
import Derived.Shelf.Strings.SlTrimAscii
import Derived.Lib.AtoiErrMem
import Derived.Shelf.Strings.Builder1
import Derived.Shelf.Strings.Builder2
import Derived.Shelf.Strings.OnBuilder
import Derived.Shelf.Strings.Trim
import Derived.Shelf.Small.Utf8
import Derived.Shelf.Small.Strs
import Derived.Shelf.Small.Wraps
import Derived.Shelf.Strings.BuilderF
import Derived.Shelf.Strconv.Atoi
import Derived.Shelf.Strconv.Itoa0
import Derived.Shelf.Strconv.Itoa1
import Derived.Shelf.LaysM
import Derived.Shelf.Strconv.Itoa2
import Derived.Shelf.Strconv.Itoa3
import Derived.Shelf.Strings.Search1
import Derived.Shelf.Strings.Search2
import Derived.Shelf.Strings.Search3
import Derived.Shelf.Strings.Cut
import Derived.Shelf.Strings.Count
import Derived.Shelf.Strings.Shaped
import Derived.Shelf.Strings.Prefix
import Derived.Shelf.Strings.Split
import Derived.Shelf.Strings.SplitShaped
import Derived.Shelf.Strings.Runes
import Derived.Shelf.Strings.AsciiSet
import Derived.Shelf.Unicode.DecodeSlow
import Derived.Shelf.Slices.Turned
import Derived.Ground.Names2Prog
import Derived.Shelf.Slices.Clone
import Derived.Shelf.Slices.SearchI
import Derived.Test.YtpmnpnlfgfleeaaGreatDoorProg
namespace Go.Proofs.YtpmnpnlfgfleeaaGreatDoor
open Go Go.RowKit

def RetNBB (n : Int) (b : Bool) (w : World) (e : Ending) (w' : World) : Prop := e = .returned (.tuple #[.int .i64 n, .bool b]) ∧ Below w.heap.size w w'
theorem trimDig_any (s : ByteArray) (w : World) (hs : s.size ≤ 1000000) : Calls Tryz.prog 103 #[.string s, .string ⟨#[48, 49, 50, 51, 52, 53, 54, 55, 56, 57]⟩] w (fun e w' => ∃ u : ByteArray, e = .returned (.string u) ∧ (u.data.toList = [] ↔ s.data.toList.all Lx.digB = true) ∧ Below w.heap.size w w') := by
  refine (Any.strings_Trim_laid Tryz.lays160 (by kernel_rfl) s ⟨#[48, 49, 50, 51, 52, 53, 54, 55, 56, 57]⟩ w (by omega) (by decide) (ascii_of_all (by decide))).mono ?_
  rintro e w' ⟨rfl, hb⟩
  exact ⟨_, rfl, Lx.trim_dig _, hb⟩
set_option maxRecDepth 100000 in
set_option maxHeartbeats 2000000 in
theorem number_any (s : ByteArray) (w : World) (hs : s.size ≤ 1000000) : Calls Tryz.prog 81 #[.string s] w (RetNBB (Lx.numV s.data.toList 4) (Lx.numB s.data.toList 4) w) := by
  have hlen : s.data.toList.length = s.size := rfl
  by_cases hg : 1 ≤ s.size ∧ s.size ≤ 4
  · obtain ⟨hg1, hg2⟩ := hg
    have h0 : 0 < s.size := hg1
    have a1' : ¬ (s.size : Int) < 1 := by omega
    have a2' : ¬ 4 < (s.size : Int) := by omega
    have hz : s.data.toList[0]? = some s[0] := by rw [List.getElem?_eq_getElem (by rw [hlen]; exact h0)]; rfl
    by_cases hc : s[0] = 48 ∧ 1 < s.size
    · have HN : Hid (Lx.numB s.data.toList 4 = false) := Lib.hid (by
        unfold Lx.numB
        rw [hz, hc.1, hlen]
        simp [hc.2])
      have HV : Hid (Lx.numV s.data.toList 4 = 0) := Lib.hid (by unfold Lx.numV; rw [HN.out]; rfl)
      have b1 : (s[0].toNat : Int) = 48 := by rw [hc.1]; rfl
      have b2 : (s.toList == [48]) = false := by
        rw [beq_eq_false_iff_ne, Go.Lib.toList_data]
        intro e
        have := congrArg List.length e
        rw [hlen] at this
        simp at this
        omega
      clear hz hc
      go_enter Tryz.func81, Tryz.ntmps81
      go_wp2_with fail
      go_ret2
      exact ⟨ret_nb HV.out.symm HN.out.symm, Below.refl _ _⟩
    · have hcc : ¬ (s[0].toNat : Int) = 48 ∨ ((s[0].toNat : Int) = 48 ∧ s.toList = [48]) := by
        by_cases q : s[0] = 48
        · refine .inr ⟨by rw [q]; rfl, ?_⟩
          have h1 : s.size = 1 := by have : ¬ 1 < s.size := fun q2 => hc ⟨q, q2⟩; omega
          rw [Go.Lib.toList_data]
          cases e : s.data.toList with
          | nil => rw [e] at hz; cases hz
          | cons a r =>
            rw [e] at hz hlen
            simp at hz hlen
            have : r = [] := List.length_eq_zero_iff.1 (by omega)
            rw [this, hz, q]
        · left
          intro e
          exact q (UInt8.toNat_inj.1 (by have : (48 : UInt8).toNat = 48 := rfl; omega))
      have HNB : Hid (Lx.numB s.data.toList 4 = s.data.toList.all Lx.digB) := Lib.hid (by
        have e : (decide (s[0] = 48) && decide (1 < s.size)) = false := by
          rw [Bool.and_eq_false_iff, decide_eq_false_iff_not, decide_eq_false_iff_not]
          by_cases q : s[0] = 48
          · exact .inr fun q2 => hc ⟨q, q2⟩
          · exact .inl q
        have e2 : (decide (1 ≤ s.size) && decide ((s.size : Int) ≤ 4)) = true := by simp; omega
        unfold Lx.numB
        rw [hz, hlen, e2]
        simp only [Option.some.injEq, e]
        simp)
      have HNE : Hid (s.data.toList ≠ []) := Lib.hid fun e => by rw [e] at hlen; simp at hlen; omega
      clear hz hc
      rcases hcc with hq | ⟨hq, hq1⟩ <;> (
      go_enter Tryz.func81, Tryz.ntmps81
      go_wp2_with fail
      refine (trimDig_any s _ hs).mono ?_
      rintro e w1 ⟨u, rfl, hu, hb⟩
      have HB := Lib.hid hb
      clear hb
      cases hd : s.data.toList.all Lx.digB
      · have hne : u.toList.isEmpty = false := by
          rw [Go.Lib.toList_data]
          cases e : u.data.toList with
          | nil => have := hu.1 e; rw [hd] at this; cases this
          | cons a r => rfl
        have HN : Hid (Lx.numB s.data.toList 4 = false) := Lib.hid (by rw [HNB.out, hd])
        have HV : Hid (Lx.numV s.data.toList 4 = 0) := Lib.hid (by unfold Lx.numV; rw [HN.out]; rfl)
        clear hu hd
        go_wp2_with fail
        go_ret2
        exact ⟨ret_nb HV.out.symm HN.out.symm, HB.out⟩
      · have hne : u.toList.isEmpty = true := by rw [Go.Lib.toList_data, hu.2 hd]; rfl
        have HN : Hid (Lx.numB s.data.toList 4 = true) := Lib.hid (by rw [HNB.out, hd])
        have HV : Hid (Lx.numV s.data.toList 4 = Lx.digV s.data.toList) := Lib.hid (by unfold Lx.numV; rw [HN.out]; rfl)
        have HA := Lib.hid (Lx.atoi_dig HNE.out hd)
        clear hu hd
        go_wp2_with fail
        refine (Tryz.strconv_Atoi s _ (by omega) HA.out _).mono ?_
        rintro e w2 ⟨rfl, t', rfl⟩
        have HB2 := Lib.hid (HB.out.trans ((Go.Lib.bytesWorld_below w1 5 t').mono HB.out.size))
        go_wp2_with fail
        go_region
        go_wp2_with fail
        go_ret2
        exact ⟨ret_nb HV.out.symm HN.out.symm, HB2.out.drew⟩)
  · have HB : Hid (Lx.numB s.data.toList 4 = false) := Lib.hid (by
      unfold Lx.numB
      rw [hlen]
      have : (decide (1 ≤ s.size) && decide ((s.size : Int) ≤ 4)) = false := by simp; omega
      rw [this]
      rfl)
    have HV : Hid (Lx.numV s.data.toList 4 = 0) := Lib.hid (by unfold Lx.numV; rw [HB.out]; rfl)
    by_cases hz : (s.size : Int) < 1
    · clear hg
      go_enter Tryz.func81, Tryz.ntmps81
      go_wp2_with fail
      go_ret2
      exact ⟨ret_nb HV.out.symm HB.out.symm, Below.refl _ _⟩
    · have hm' : 4 < (s.size : Int) := by omega
      clear hg
      go_enter Tryz.func81, Tryz.ntmps81
      go_wp2_with fail
      go_ret2
      exact ⟨ret_nb HV.out.symm HB.out.symm, Below.refl _ _⟩
end Go.Proofs.YtpmnpnlfgfleeaaGreatDoor
namespace Go.Proofs
open Go.Shelf
def Tryz.lays145_ren : Go.Shelf.Ren := ⟨fun | 145 => 35 | 220 => 77 | 219 => 99 | 217 => 118 | 225 => 119 | 224 => 120 | 267 => 121 | 266 => 140 | 314 => 141 | n => n, fun | 9 => 9 | 4 => 4 | 59 => 70 | 3 => 3 | 5 => 5 | 46 => 150 | 146 => 178 | 51 => 175 | n => n, fun | 1 => 0 | n => n⟩
theorem Tryz.lays145 : Go.Proofs.Lays.n145 Tryz.prog Tryz.lays145_ren := {
  mixed := by kernel_rfl
  f145 := Tryz.func35.trans (congrArg some (by kernel_rfl))
  f217 := Tryz.func118.trans (congrArg some (by kernel_rfl))
  f219 := Tryz.func99.trans (congrArg some (by kernel_rfl))
  f220 := Tryz.func77.trans (congrArg some (by kernel_rfl))
  f224 := Tryz.func120.trans (congrArg some (by kernel_rfl))
  f225 := Tryz.func119.trans (congrArg some (by kernel_rfl))
  f266 := Tryz.func140.trans (congrArg some (by kernel_rfl))
  f267 := Tryz.func121.trans (congrArg some (by kernel_rfl))
  f314 := Tryz.func141.trans (congrArg some (by kernel_rfl))
  t3 := Tryz.underlying3
  a3 := Tryz.isAgg3
  z3 := Tryz.sizeOf3
  v3 := Tryz.zeroValue3
  t4 := Tryz.underlying4
  a4 := Tryz.isAgg4
  z4 := Tryz.sizeOf4
  v4 := Tryz.zeroValue4
  t5 := Tryz.underlying5
  a5 := Tryz.isAgg5
  z5 := Tryz.sizeOf5
  v5 := Tryz.zeroValue5
  t9 := Tryz.underlying9
  a9 := Tryz.isAgg9
  z9 := Tryz.sizeOf9
  v9 := Tryz.zeroValue9
  t46 := Tryz.underlying150
  a46 := Tryz.isAgg150
  z46 := Tryz.sizeOf150
  v46 := Tryz.zeroValue150
  t51 := Tryz.underlying175
  a51 := Tryz.isAgg175
  z51 := Tryz.sizeOf175
  v51 := Tryz.zeroValue175
  t59 := Tryz.underlying70
  a59 := Tryz.isAgg70
  z59 := Tryz.sizeOf70
  v59 := Tryz.zeroValue70
  t146 := Tryz.underlying178
  a146 := Tryz.isAgg178
  z146 := Tryz.sizeOf178
  v146 := Tryz.zeroValue178
  g1 := by kernel_rfl }
open Go.RowKit Go.Lib in
/-- strings.Cut: "Cut slices s around the first instance of sep, returning the text before and after sep. The found result reports whether sep appears in s. If sep does not appear in s, cut returns s, "", false.": IT RETURNS 'Lib.cut s sep'; the world is as it was but for the count of draws. (LAID: no walk: one application.) -/
theorem Tryz.strings_Cut (s sep : ByteArray) (m : Int) (w : World) (hs : s.size < 4294967281) (hm : w.cell? ⟨0, 0, none⟩ = some (.int .i64 m)) :
    Calls Tryz.prog 35 #[.string s, .string sep] w fun e w' => e = .returned (.tuple #[.string ⟨(Lib.cut s.data.toList sep.data.toList).1.toArray⟩, .string ⟨(Lib.cut s.data.toList sep.data.toList).2.1.toArray⟩, .bool (Lib.cut s.data.toList sep.data.toList).2.2]) ∧ ∃ n, w' = w.drewN n := Any.strings_Cut Tryz.lays145 s sep m w hs hm
def Tryz.lays146_ren : Go.Shelf.Ren := ⟨fun | 146 => 34 | 221 => 76 | 268 => 96 | 138 => 97 | 143 => 98 | 195 => 115 | 197 => 116 | 218 => 117 | 219 => 99 | 260 => 139 | 217 => 118 | 225 => 119 | 224 => 120 | 267 => 121 | 266 => 140 | 314 => 141 | n => n, fun | 9 => 9 | 31 => 68 | 3 => 3 | 4 => 4 | 0 => 0 | 105 => 160 | 21 => 21 | 5 => 5 | 46 => 150 | 119 => 190 | 139 => 193 | 138 => 192 | 146 => 178 | 51 => 175 | n => n, fun | 1 => 0 | 3 => 2 | 4 => 3 | n => n⟩
theorem Tryz.lays146 : Go.Proofs.Lays.n146 Tryz.prog Tryz.lays146_ren := {
  mixed := by kernel_rfl
  f138 := Tryz.func97.trans (congrArg some (by kernel_rfl))
  f143 := Tryz.func98.trans (congrArg some (by kernel_rfl))
  f146 := Tryz.func34.trans (congrArg some (by kernel_rfl))
  f195 := Tryz.func115.trans (congrArg some (by kernel_rfl))
  f197 := Tryz.func116.trans (congrArg some (by kernel_rfl))
  f217 := Tryz.func118.trans (congrArg some (by kernel_rfl))
  f218 := Tryz.func117.trans (congrArg some (by kernel_rfl))
  f219 := Tryz.func99.trans (congrArg some (by kernel_rfl))
  f221 := Tryz.func76.trans (congrArg some (by kernel_rfl))
  f224 := Tryz.func120.trans (congrArg some (by kernel_rfl))
  f225 := Tryz.func119.trans (congrArg some (by kernel_rfl))
  f260 := Tryz.func139.trans (congrArg some (by kernel_rfl))
  f266 := Tryz.func140.trans (congrArg some (by kernel_rfl))
  f267 := Tryz.func121.trans (congrArg some (by kernel_rfl))
  f268 := Tryz.func96.trans (congrArg some (by kernel_rfl))
  f314 := Tryz.func141.trans (congrArg some (by kernel_rfl))
  t0 := Tryz.underlying0
  a0 := Tryz.isAgg0
  z0 := Tryz.sizeOf0
  v0 := Tryz.zeroValue0
  t3 := Tryz.underlying3
  a3 := Tryz.isAgg3
  z3 := Tryz.sizeOf3
  v3 := Tryz.zeroValue3
  t4 := Tryz.underlying4
  a4 := Tryz.isAgg4
  z4 := Tryz.sizeOf4
  v4 := Tryz.zeroValue4
  t5 := Tryz.underlying5
  a5 := Tryz.isAgg5
  z5 := Tryz.sizeOf5
  v5 := Tryz.zeroValue5
  t9 := Tryz.underlying9
  a9 := Tryz.isAgg9
  z9 := Tryz.sizeOf9
  v9 := Tryz.zeroValue9
  t21 := Tryz.underlying21
  a21 := Tryz.isAgg21
  z21 := Tryz.sizeOf21
  v21 := Tryz.zeroValue21
  t31 := Tryz.underlying68
  a31 := Tryz.isAgg68
  z31 := Tryz.sizeOf68
  v31 := Tryz.zeroValue68
  t46 := Tryz.underlying150
  a46 := Tryz.isAgg150
  z46 := Tryz.sizeOf150
  v46 := Tryz.zeroValue150
  t51 := Tryz.underlying175
  a51 := Tryz.isAgg175
  z51 := Tryz.sizeOf175
  v51 := Tryz.zeroValue175
  t105 := Tryz.underlying160
  a105 := Tryz.isAgg160
  z105 := Tryz.sizeOf160
  v105 := Tryz.zeroValue160
  t119 := Tryz.underlying190
  a119 := Tryz.isAgg190
  z119 := Tryz.sizeOf190
  t138 := Tryz.underlying192
  a138 := Tryz.isAgg192
  z138 := Tryz.sizeOf192
  v138 := Tryz.zeroValue192
  t139 := Tryz.underlying193
  a139 := Tryz.isAgg193
  z139 := Tryz.sizeOf193
  v139 := Tryz.zeroValue193
  t146 := Tryz.underlying178
  a146 := Tryz.isAgg178
  z146 := Tryz.sizeOf178
  v146 := Tryz.zeroValue178
  g1 := by kernel_rfl
  g3 := by kernel_rfl
  g4 := by kernel_rfl }
open Go.RowKit Go.Lib in
/-- strings.Split. (LAID: no walk: one application.) -/
theorem Tryz.strings_Split (s sep : ByteArray) (m : Int) (w : World) (hs : s.size < 4294967281) (hm : w.cell? ⟨0, 0, none⟩ = some (.int .i64 m)) (h1 : 1 ≤ sep.size) :
    Calls Tryz.prog 34 #[.string s, .string sep] w fun e w' =>
      e = .returned (.slice (some ⟨w.heap.size, 0, none⟩) (Lib.countB s sep + 1) (Lib.countB s sep + 1)) ∧ w' = w.alloc (.cells ((Lib.splitB sep 0 (Lib.countB s sep) s).map Value.string).toArray 9) := Any.strings_Split Tryz.lays146 (by kernel_rfl) s sep m w hs hm h1
end Go.Proofs
