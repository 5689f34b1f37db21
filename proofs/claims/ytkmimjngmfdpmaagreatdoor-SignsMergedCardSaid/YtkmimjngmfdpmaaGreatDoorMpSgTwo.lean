/- ostraconref01.Lines, ostraconref05.full. DERIVED: THE SHELF's CONTRACTS AT THIS DUMP, IN PLAIN WORDS (tools/lay-plain.mjs out of 'TryzShelf.lean', which tools/lay-shelf.mjs wrote): THE SAME DECLARATIONS UNDER THE SAME NAMES: 'import', 'namespace', 'open', 'def', 'theorem' AND NOTHING ELSE: no command of the shelf's: FOR A HAND-IN. Each laying: the table of numbers ('.._ren') and one theorem, a .. -/
import Derived.Test.YtkmimjngmfdpmaaGreatDoorMpTrimPlain
import Derived.Test.YtkmimjngmfdpmaaGreatDoorMpTextPlain
import Derived.Test.YtkmimjngmfdpmaaGreatDoorMpLeaf
import Derived.Shelf.Small.Wraps
import Derived.Shelf.LaysM
import Derived.Shelf.Strings.Cut
import Derived.Shelf.Strings.Split
import Derived.Ground.Names2Prog
import Derived.Test.YtkmimjngmfdpmaaGreatDoorProg
import Derived.Test.YtkmimjngmfdpmaaGreatDoorMpShelfI
import Derived.Test.YtkmimjngmfdpmaaGreatDoorMpSgParsePlain
import Derived.Test.YtkmimjngmfdpmaaGreatDoorMpIdxAny
namespace Go.Proofs.YtkmimjngmfdpmaaGreatDoor
open Go Go.RowKit

/-- words of a piece of memory, and a truth value -/
def RetWB (q : List (List UInt8)) (b : Bool) (w : World) (e : Ending) (w' : World) : Prop := ∃ v, ∃ l : List ByteArray, e = .returned (.tuple #[v, .bool b]) ∧ RdS w' w'.heap.size 1 encStr v l ∧ l.map (·.data.toList) = q ∧ Below w.heap.size w w'
theorem empty_not {s : ByteArray} (h : ¬ s.data.toList = []) : s.toList.isEmpty = false := by
  rw [Go.Lib.toList_data]
  cases e : s.data.toList with
  | nil => exact absurd e h
  | cons a l => rfl

/-- the last word is the empty one -/
theorem RetWB.of {v : Value} {l : List ByteArray} {w w' : World} {q : List (List UInt8)} {b c : Bool} (hr : RdS w' w'.heap.size 1 encStr v l) (hb : Below w.heap.size w w') (hq : l.map (·.data.toList) = q) (hc : c = b) : RetWB q b w (.returned (.tuple #[v, .bool c])) w' := ⟨v, l, by rw [hc], hr, hq, hb⟩


end Go.Proofs.YtkmimjngmfdpmaaGreatDoor
namespace Go.Proofs
open Go.Shelf
def Tryz.lays103_ren : Go.Shelf.Ren := ⟨fun | 103 => 58 | 210 => 93 | 206 => 130 | n => n, fun | 9 => 9 | 4 => 4 | 24 => 77 | 3 => 3 | n => n, fun | n => n⟩
theorem Tryz.lays103 : Go.Proofs.Lays.n103 Tryz.prog Tryz.lays103_ren := {
  mixed := by kernel_rfl
  f103 := Tryz.func58.trans (congrArg some (by kernel_rfl))
  f206 := Tryz.func130.trans (congrArg some (by kernel_rfl))
  f210 := Tryz.func93.trans (congrArg some (by kernel_rfl))
  t3 := Tryz.underlying3
  a3 := Tryz.isAgg3
  z3 := Tryz.sizeOf3
  v3 := Tryz.zeroValue3
  t4 := Tryz.underlying4
  a4 := Tryz.isAgg4
  z4 := Tryz.sizeOf4
  v4 := Tryz.zeroValue4
  t9 := Tryz.underlying9
  a9 := Tryz.isAgg9
  z9 := Tryz.sizeOf9
  v9 := Tryz.zeroValue9
  t24 := Tryz.underlying77
  a24 := Tryz.isAgg77
  z24 := Tryz.sizeOf77
  v24 := Tryz.zeroValue77 }
open Go.RowKit in
/-- strings.CutPrefix: "CutPrefix returns s without the provided leading prefix string and reports whether it found the prefix. If s doesn't start with prefix, CutPrefix returns s, false. If prefix is the empty string, CutPrefix returns s, true.": IT RETURNS '(Lib.trimPrefix s p, Lib.hasPrefix s p)'; the world is as it was. (LAID: no walk: one application.) -/
theorem Tryz.strings_CutPrefix (s p : ByteArray) (w : World) :
    Calls Tryz.prog 58 #[.string s, .string p] w fun e w' => e = .returned (.tuple #[.string ⟨(Lib.trimPrefix s.data.toList p.data.toList).toArray⟩, .bool (Lib.hasPrefix s.data.toList p.data.toList)]) ∧ w' = w := Any.strings_CutPrefix Tryz.lays103 s p w
def Tryz.lays104_ren : Go.Shelf.Ren := ⟨fun | 104 => 57 | 211 => 92 | 207 => 129 | n => n, fun | 9 => 9 | 4 => 4 | 24 => 77 | 3 => 3 | n => n, fun | n => n⟩
theorem Tryz.lays104 : Go.Proofs.Lays.n104 Tryz.prog Tryz.lays104_ren := {
  mixed := by kernel_rfl
  f104 := Tryz.func57.trans (congrArg some (by kernel_rfl))
  f207 := Tryz.func129.trans (congrArg some (by kernel_rfl))
  f211 := Tryz.func92.trans (congrArg some (by kernel_rfl))
  t3 := Tryz.underlying3
  a3 := Tryz.isAgg3
  z3 := Tryz.sizeOf3
  v3 := Tryz.zeroValue3
  t4 := Tryz.underlying4
  a4 := Tryz.isAgg4
  z4 := Tryz.sizeOf4
  v4 := Tryz.zeroValue4
  t9 := Tryz.underlying9
  a9 := Tryz.isAgg9
  z9 := Tryz.sizeOf9
  v9 := Tryz.zeroValue9
  t24 := Tryz.underlying77
  a24 := Tryz.isAgg77
  z24 := Tryz.sizeOf77
  v24 := Tryz.zeroValue77 }
open Go.RowKit in
/-- strings.CutSuffix: "CutSuffix returns s without the provided ending suffix string and reports whether it found the suffix. If s doesn't end with suffix, CutSuffix returns s, false. If suffix is the empty string, CutSuffix returns s, true.": IT RETURNS '(Lib.trimSuffix s p, Lib.hasSuffix s p)'; the world is as it was. (LAID: no walk: one application.) -/
theorem Tryz.strings_CutSuffix (s p : ByteArray) (w : World) (hs : s.size ≤ 9223372036854775807) :
    Calls Tryz.prog 57 #[.string s, .string p] w fun e w' => e = .returned (.tuple #[.string ⟨(Lib.trimSuffix s.data.toList p.data.toList).toArray⟩, .bool (Lib.hasSuffix s.data.toList p.data.toList)]) ∧ w' = w := Any.strings_CutSuffix Tryz.lays104 s p w hs
def Tryz.lays145_ren : Go.Shelf.Ren := ⟨fun | 145 => 132 | 220 => 159 | 219 => 158 | 217 => 160 | 225 => 136 | 224 => 135 | 267 => 182 | 266 => 183 | 314 => 193 | n => n, fun | 9 => 9 | 4 => 4 | 59 => 142 | 3 => 3 | 5 => 5 | 46 => 147 | 146 => 202 | 51 => 184 | n => n, fun | 1 => 1 | n => n⟩
theorem Tryz.lays145 : Go.Proofs.Lays.n145 Tryz.prog Tryz.lays145_ren := {
  mixed := by kernel_rfl
  f145 := Tryz.func132.trans (congrArg some (by kernel_rfl))
  f217 := Tryz.func160.trans (congrArg some (by kernel_rfl))
  f219 := Tryz.func158.trans (congrArg some (by kernel_rfl))
  f220 := Tryz.func159.trans (congrArg some (by kernel_rfl))
  f224 := Tryz.func135.trans (congrArg some (by kernel_rfl))
  f225 := Tryz.func136.trans (congrArg some (by kernel_rfl))
  f266 := Tryz.func183.trans (congrArg some (by kernel_rfl))
  f267 := Tryz.func182.trans (congrArg some (by kernel_rfl))
  f314 := Tryz.func193.trans (congrArg some (by kernel_rfl))
  t3 := Tryz.underlying3
  a3 := Tryz.isAgg3
  z3 := Tryz.sizeOf3
  v3 := Tryz.zeroValue3
  t4 := Tryz.underlying4
  a4 := Tryz.isAgg4
  z4 := Tryz.sizeOf4
  v4 := Tryz.zeroValue4
  t5 := Tryz.underlying5
  a5 := Tryz.isAgg5
  z5 := Tryz.sizeOf5
  v5 := Tryz.zeroValue5
  t9 := Tryz.underlying9
  a9 := Tryz.isAgg9
  z9 := Tryz.sizeOf9
  v9 := Tryz.zeroValue9
  t46 := Tryz.underlying147
  a46 := Tryz.isAgg147
  z46 := Tryz.sizeOf147
  v46 := Tryz.zeroValue147
  t51 := Tryz.underlying184
  a51 := Tryz.isAgg184
  z51 := Tryz.sizeOf184
  v51 := Tryz.zeroValue184
  t59 := Tryz.underlying142
  a59 := Tryz.isAgg142
  z59 := Tryz.sizeOf142
  v59 := Tryz.zeroValue142
  t146 := Tryz.underlying202
  a146 := Tryz.isAgg202
  z146 := Tryz.sizeOf202
  v146 := Tryz.zeroValue202
  g1 := by kernel_rfl }
open Go.RowKit Go.Lib in
/-- strings.Cut: "Cut slices s around the first instance of sep, returning the text before and after sep. The found result reports whether sep appears in s. If sep does not appear in s, cut returns s, "", false.": IT RETURNS 'Lib.cut s sep'; the world is as it was but for the count of draws. (LAID: no walk: one application.) -/
theorem Tryz.strings_Cut (s sep : ByteArray) (m : Int) (w : World) (hs : s.size < 4294967281) (hm : w.cell? ⟨1, 0, none⟩ = some (.int .i64 m)) :
    Calls Tryz.prog 132 #[.string s, .string sep] w fun e w' => e = .returned (.tuple #[.string ⟨(Lib.cut s.data.toList sep.data.toList).1.toArray⟩, .string ⟨(Lib.cut s.data.toList sep.data.toList).2.1.toArray⟩, .bool (Lib.cut s.data.toList sep.data.toList).2.2]) ∧ ∃ n, w' = w.drewN n := Any.strings_Cut Tryz.lays145 s sep m w hs hm
def Tryz.lays221_ren : Go.Shelf.Ren := ⟨fun | 221 => 91 | 268 => 126 | 138 => 127 | 143 => 128 | 195 => 156 | 197 => 142 | 218 => 157 | 219 => 158 | 260 => 164 | 217 => 160 | 225 => 136 | 224 => 135 | 267 => 182 | 266 => 183 | 314 => 193 | n => n, fun | 9 => 9 | 3 => 3 | 31 => 58 | 4 => 4 | 0 => 0 | 105 => 154 | 21 => 21 | 5 => 5 | 46 => 147 | 119 => 192 | 139 => 195 | 138 => 194 | 146 => 202 | 51 => 184 | n => n, fun | 1 => 1 | 3 => 5 | 4 => 6 | n => n⟩
theorem Tryz.lays221 : Go.Proofs.Lays.n221 Tryz.prog Tryz.lays221_ren := {
  mixed := by kernel_rfl
  f138 := Tryz.func127.trans (congrArg some (by kernel_rfl))
  f143 := Tryz.func128.trans (congrArg some (by kernel_rfl))
  f195 := Tryz.func156.trans (congrArg some (by kernel_rfl))
  f197 := Tryz.func142.trans (congrArg some (by kernel_rfl))
  f217 := Tryz.func160.trans (congrArg some (by kernel_rfl))
  f218 := Tryz.func157.trans (congrArg some (by kernel_rfl))
  f219 := Tryz.func158.trans (congrArg some (by kernel_rfl))
  f221 := Tryz.func91.trans (congrArg some (by kernel_rfl))
  f224 := Tryz.func135.trans (congrArg some (by kernel_rfl))
  f225 := Tryz.func136.trans (congrArg some (by kernel_rfl))
  f260 := Tryz.func164.trans (congrArg some (by kernel_rfl))
  f266 := Tryz.func183.trans (congrArg some (by kernel_rfl))
  f267 := Tryz.func182.trans (congrArg some (by kernel_rfl))
  f268 := Tryz.func126.trans (congrArg some (by kernel_rfl))
  f314 := Tryz.func193.trans (congrArg some (by kernel_rfl))
  t0 := Tryz.underlying0
  a0 := Tryz.isAgg0
  z0 := Tryz.sizeOf0
  v0 := Tryz.zeroValue0
  t3 := Tryz.underlying3
  a3 := Tryz.isAgg3
  z3 := Tryz.sizeOf3
  v3 := Tryz.zeroValue3
  t4 := Tryz.underlying4
  a4 := Tryz.isAgg4
  z4 := Tryz.sizeOf4
  v4 := Tryz.zeroValue4
  t5 := Tryz.underlying5
  a5 := Tryz.isAgg5
  z5 := Tryz.sizeOf5
  v5 := Tryz.zeroValue5
  t9 := Tryz.underlying9
  a9 := Tryz.isAgg9
  z9 := Tryz.sizeOf9
  v9 := Tryz.zeroValue9
  t21 := Tryz.underlying21
  a21 := Tryz.isAgg21
  z21 := Tryz.sizeOf21
  v21 := Tryz.zeroValue21
  t31 := Tryz.underlying58
  a31 := Tryz.isAgg58
  z31 := Tryz.sizeOf58
  v31 := Tryz.zeroValue58
  t46 := Tryz.underlying147
  a46 := Tryz.isAgg147
  z46 := Tryz.sizeOf147
  v46 := Tryz.zeroValue147
  t51 := Tryz.underlying184
  a51 := Tryz.isAgg184
  z51 := Tryz.sizeOf184
  v51 := Tryz.zeroValue184
  t105 := Tryz.underlying154
  a105 := Tryz.isAgg154
  z105 := Tryz.sizeOf154
  v105 := Tryz.zeroValue154
  t119 := Tryz.underlying192
  a119 := Tryz.isAgg192
  z119 := Tryz.sizeOf192
  t138 := Tryz.underlying194
  a138 := Tryz.isAgg194
  z138 := Tryz.sizeOf194
  v138 := Tryz.zeroValue194
  t139 := Tryz.underlying195
  a139 := Tryz.isAgg195
  z139 := Tryz.sizeOf195
  v139 := Tryz.zeroValue195
  t146 := Tryz.underlying202
  a146 := Tryz.isAgg202
  z146 := Tryz.sizeOf202
  v146 := Tryz.zeroValue202
  g1 := by kernel_rfl
  g3 := by kernel_rfl
  g4 := by kernel_rfl }
open Go.RowKit Go.Lib in
theorem Tryz.strings_genSplit (s sep : ByteArray) (sv : Nat) (n : Int) (N : Nat) (m : Int) (w : World) (hs : s.size < 4294967281) (hm : w.cell? ⟨1, 0, none⟩ = some (.int .i64 m)) (h1 : 1 ≤ sep.size) (hsv : sv ≤ sep.size) (hn0 : n ≠ 0) (hn63 : n ≤ 9223372036854775807) (hN : (N : Int) = min (if n < 0 then (Lib.countB s sep : Int) + 1 else n) ((s.size : Int) + 1)) :
    Calls Tryz.prog 91 #[.string s, .string sep, .int .i64 sv, .int .i64 n] w fun e w' =>
      e = .returned (.slice (some ⟨w.heap.size, 0, none⟩) (Lib.splitB sep sv (N - 1) s).length N) ∧ w' = w.alloc (.cells (Lib.cellsOf (Lib.splitB sep sv (N - 1) s) N) 9) := Any.strings_genSplit Tryz.lays221 (by kernel_rfl) s sep sv n N m w hs hm h1 hsv hn0 hn63 hN
def Tryz.lays146_ren : Go.Shelf.Ren := ⟨fun | 146 => 94 | 221 => 91 | 268 => 126 | 138 => 127 | 143 => 128 | 195 => 156 | 197 => 142 | 218 => 157 | 219 => 158 | 260 => 164 | 217 => 160 | 225 => 136 | 224 => 135 | 267 => 182 | 266 => 183 | 314 => 193 | n => n, fun | 9 => 9 | 31 => 58 | 3 => 3 | 4 => 4 | 0 => 0 | 105 => 154 | 21 => 21 | 5 => 5 | 46 => 147 | 119 => 192 | 139 => 195 | 138 => 194 | 146 => 202 | 51 => 184 | n => n, fun | 1 => 1 | 3 => 5 | 4 => 6 | n => n⟩
theorem Tryz.lays146 : Go.Proofs.Lays.n146 Tryz.prog Tryz.lays146_ren := {
  mixed := by kernel_rfl
  f138 := Tryz.func127.trans (congrArg some (by kernel_rfl))
  f143 := Tryz.func128.trans (congrArg some (by kernel_rfl))
  f146 := Tryz.func94.trans (congrArg some (by kernel_rfl))
  f195 := Tryz.func156.trans (congrArg some (by kernel_rfl))
  f197 := Tryz.func142.trans (congrArg some (by kernel_rfl))
  f217 := Tryz.func160.trans (congrArg some (by kernel_rfl))
  f218 := Tryz.func157.trans (congrArg some (by kernel_rfl))
  f219 := Tryz.func158.trans (congrArg some (by kernel_rfl))
  f221 := Tryz.func91.trans (congrArg some (by kernel_rfl))
  f224 := Tryz.func135.trans (congrArg some (by kernel_rfl))
  f225 := Tryz.func136.trans (congrArg some (by kernel_rfl))
  f260 := Tryz.func164.trans (congrArg some (by kernel_rfl))
  f266 := Tryz.func183.trans (congrArg some (by kernel_rfl))
  f267 := Tryz.func182.trans (congrArg some (by kernel_rfl))
  f268 := Tryz.func126.trans (congrArg some (by kernel_rfl))
  f314 := Tryz.func193.trans (congrArg some (by kernel_rfl))
  t0 := Tryz.underlying0
  a0 := Tryz.isAgg0
  z0 := Tryz.sizeOf0
  v0 := Tryz.zeroValue0
  t3 := Tryz.underlying3
  a3 := Tryz.isAgg3
  z3 := Tryz.sizeOf3
  v3 := Tryz.zeroValue3
  t4 := Tryz.underlying4
  a4 := Tryz.isAgg4
  z4 := Tryz.sizeOf4
  v4 := Tryz.zeroValue4
  t5 := Tryz.underlying5
  a5 := Tryz.isAgg5
  z5 := Tryz.sizeOf5
  v5 := Tryz.zeroValue5
  t9 := Tryz.underlying9
  a9 := Tryz.isAgg9
  z9 := Tryz.sizeOf9
  v9 := Tryz.zeroValue9
  t21 := Tryz.underlying21
  a21 := Tryz.isAgg21
  z21 := Tryz.sizeOf21
  v21 := Tryz.zeroValue21
  t31 := Tryz.underlying58
  a31 := Tryz.isAgg58
  z31 := Tryz.sizeOf58
  v31 := Tryz.zeroValue58
  t46 := Tryz.underlying147
  a46 := Tryz.isAgg147
  z46 := Tryz.sizeOf147
  v46 := Tryz.zeroValue147
  t51 := Tryz.underlying184
  a51 := Tryz.isAgg184
  z51 := Tryz.sizeOf184
  v51 := Tryz.zeroValue184
  t105 := Tryz.underlying154
  a105 := Tryz.isAgg154
  z105 := Tryz.sizeOf154
  v105 := Tryz.zeroValue154
  t119 := Tryz.underlying192
  a119 := Tryz.isAgg192
  z119 := Tryz.sizeOf192
  t138 := Tryz.underlying194
  a138 := Tryz.isAgg194
  z138 := Tryz.sizeOf194
  v138 := Tryz.zeroValue194
  t139 := Tryz.underlying195
  a139 := Tryz.isAgg195
  z139 := Tryz.sizeOf195
  v139 := Tryz.zeroValue195
  t146 := Tryz.underlying202
  a146 := Tryz.isAgg202
  z146 := Tryz.sizeOf202
  v146 := Tryz.zeroValue202
  g1 := by kernel_rfl
  g3 := by kernel_rfl
  g4 := by kernel_rfl }
open Go.RowKit Go.Lib in
/-- strings.Split. (LAID: no walk: one application.) -/
theorem Tryz.strings_Split (s sep : ByteArray) (m : Int) (w : World) (hs : s.size < 4294967281) (hm : w.cell? ⟨1, 0, none⟩ = some (.int .i64 m)) (h1 : 1 ≤ sep.size) :
    Calls Tryz.prog 94 #[.string s, .string sep] w fun e w' =>
      e = .returned (.slice (some ⟨w.heap.size, 0, none⟩) (Lib.countB s sep + 1) (Lib.countB s sep + 1)) ∧ w' = w.alloc (.cells ((Lib.splitB sep 0 (Lib.countB s sep) s).map Value.string).toArray 9) := Any.strings_Split Tryz.lays146 (by kernel_rfl) s sep m w hs hm h1
end Go.Proofs
namespace Go.Proofs.YtkmimjngmfdpmaaGreatDoor
open Go Go.RowKit

/-- what the walks ask of the package-level variables -/
structure Glob (w : World) : Prop where
  most : ∃ m : Int, w.cell? ⟨1, 0, none⟩ = some (.int .i64 m)
  l0 : w.cell? ⟨0, 0, none⟩ = some (.int .u8 115)
  l1 : w.cell? ⟨0, 1, none⟩ = some (.int .u8 119)
  l2 : w.cell? ⟨0, 2, none⟩ = some (.int .u8 99)
theorem lt_of_cell0 {w : World} {a : Addr} {v : Value} (h : w.cell? a = some v) : a.block < w.heap.size := by
  rcases Nat.lt_or_ge a.block w.heap.size with h1 | h1
  · exact h1
  · simp [World.cell?, Array.getElem?_eq_none h1] at h
theorem Glob.below {w w' : World} (h : Glob w) (hb : Below w.heap.size w w') : Glob w' := by
  obtain ⟨⟨m, h0⟩, h1, h2, h3⟩ := h
  exact ⟨⟨m, (hb.cell (lt_of_cell0 h0)).trans h0⟩, (hb.cell (lt_of_cell0 h1)).trans h1, (hb.cell (lt_of_cell0 h2)).trans h2, (hb.cell (lt_of_cell0 h3)).trans h3⟩
theorem Sg.cut_len (l : List UInt8) (c : UInt8) : (Lib.cut l [c]).1.length ≤ l.length ∧ (Lib.cut l [c]).2.1.length ≤ l.length := by
  unfold Lib.cut
  split
  · exact ⟨by rw [List.length_take]; omega, by rw [List.length_drop]; omega⟩
  · exact ⟨Nat.le_refl _, Nat.zero_le _⟩
theorem Sg.bs_size (l : List UInt8) : (Sg.bs l).size = l.length := rfl
/-- strings.Cut at a byte -/
theorem cut_any (t : ByteArray) (c : UInt8) (w : World) (hg : Glob w) (ht : t.size ≤ 1000000) :
    Calls Tryz.prog 132 #[.string t, .string ⟨#[c]⟩] w (fun e w' => e = .returned (.tuple #[.string (Sg.bs (Lib.cut t.data.toList [c]).1), .string (Sg.bs (Lib.cut t.data.toList [c]).2.1), .bool (Lib.cut t.data.toList [c]).2.2]) ∧ Below w.heap.size w w') := by
  obtain ⟨m, hm⟩ := hg.most
  refine (Tryz.strings_Cut t ⟨#[c]⟩ m w (by omega) hm).mono ?_
  rintro e w' ⟨rfl, n, rfl⟩
  exact ⟨rfl, below_drewN (Below.refl _ _) _⟩
def Sg.freeB (l : List UInt8) : Bool := !decide (l = []) && !Lib.containsAny l [32, 64, 58, 10]
theorem idxAny_all (chars : List UInt8) : ∀ l : List UInt8, decide (0 ≤ Lib.indexAny l chars) = l.any (fun b => chars.contains b)
  | [] => rfl
  | b :: l => by
    have ih := idxAny_all chars l
    have hg := Lib.indexAny_ge chars l
    rw [Lib.indexAny, List.any_cons, ← ih]
    cases h : chars.contains b
    · rw [if_neg (by simp), Bool.false_or]
      by_cases h2 : Lib.indexAny l chars = -1
      · rw [h2]; rfl
      · rw [if_neg (by simpa using h2)]
        have : 0 ≤ Lib.indexAny l chars := by omega
        simp [this]; omega
    · simp
theorem Sg.free_loose {l : List UInt8} (h : (10 : UInt8) ∉ l) : Sg.freeB l = Sg.looseB l := by
  unfold Sg.freeB Sg.looseB Lib.containsAny
  rw [idxAny_all]
  congr 1
  rw [Bool.eq_iff_iff, Bool.not_eq_true', List.any_eq_false, List.all_eq_true]
  constructor
  · intro h1 b hb
    have := h1 b hb
    simp at this
    simp [this]
  · intro h1 b hb
    have h2 := h1 b hb
    have hb10 : b ≠ 10 := fun e => h (e ▸ hb)
    simp at h2
    simp [h2, hb10]
set_option maxRecDepth 100000 in
set_option maxHeartbeats 2000000 in
theorem gFree_any (t : ByteArray) (w : World) (ht : t.size ≤ 1000000) : Calls Tryz.prog 95 #[.string t] w (RetBB (Sg.freeB t.data.toList) w) := by
  by_cases he : t.data.toList = []
  · have HF : Hid (Sg.freeB t.data.toList = false) := Lib.hid (by unfold Sg.freeB; simp [he])
    have hemp : t.toList.isEmpty = true := by rw [Lib.toList_data, he]; rfl
    clear he
    go_enter Tryz.func95, Tryz.ntmps95
    go_wp2_with fail
    go_ret
    exact ⟨ret_bool HF.out.symm, Below.refl _ _⟩
  · have hemp : t.toList.isEmpty = false := empty_not he
    have HC := Lib.hid (contAny_any t ⟨#[32, 64, 58, 10]⟩ w (by unfold AscB; decide) (by decide) (by decide) ht)
    have HF : Hid (Sg.freeB t.data.toList = !Lib.containsAny t.data.toList (⟨#[32, 64, 58, 10]⟩ : ByteArray).data.toList) := Lib.hid (by unfold Sg.freeB; simp [he])
    generalize Lib.containsAny t.data.toList (⟨#[32, 64, 58, 10]⟩ : ByteArray).data.toList = q at HC HF
    clear he
    go_enter Tryz.func95, Tryz.ntmps95
    go_wp2_with fail
    refine HC.out.mono ?_
    rintro e w1 ⟨rfl, hb⟩
    have HB := Lib.hid hb
    clear hb
    go_wp2_with fail
    go_ret
    exact ⟨ret_bool HF.out.symm, HB.out⟩
def RetTwo (q : Int × Int × Bool) (w : World) (e : Ending) (w' : World) : Prop := e = .returned (.tuple #[.int .i64 q.1, .int .i64 q.2.1, .bool q.2.2]) ∧ Below w.heap.size w w'
theorem RetTwo.of {q : Int × Int × Bool} {a b : Int} {c : Bool} {w w' : World} (hq : q = (a, b, c)) (hb : Below w.heap.size w w') : RetTwo q w (.returned (.tuple #[.int .i64 a, .int .i64 b, .bool c])) w' := by subst hq; exact ⟨rfl, hb⟩
set_option maxRecDepth 100000 in
set_option maxHeartbeats 2000000 in
theorem gTwo_any (t : ByteArray) (c : UInt8) (w : World) (hg : Glob w) (ht : t.size ≤ 1000000) : Calls Tryz.prog 96 #[.string t, .string ⟨#[c]⟩] w (RetTwo (Sg.twoP t.data.toList c) w) := by
  have HC := Lib.hid (cut_any t c w hg ht)
  obtain ⟨hl1, hl2⟩ := Sg.cut_len t.data.toList c
  have htl : t.data.toList.length = t.size := rfl
  have HT : Hid (Sg.twoP t.data.toList c = (Lx.numV (Lib.cut t.data.toList [c]).1 3, Lx.numV (Lib.cut t.data.toList [c]).2.1 3, (Lib.cut t.data.toList [c]).2.2 && Lx.numB (Lib.cut t.data.toList [c]).1 3 && Lx.numB (Lib.cut t.data.toList [c]).2.1 3)) := Lib.hid rfl
  obtain ⟨⟨a, b, f⟩, hq⟩ : ∃ q, q = Lib.cut t.data.toList [c] := ⟨_, rfl⟩
  rw [← hq] at HC HT hl1 hl2
  have N1 := Lib.hid fun W => gNumber_any (Sg.bs a) W (by rw [Sg.bs_size]; simp only at hl1; omega)
  have N2 := Lib.hid fun W => gNumber_any (Sg.bs b) W (by rw [Sg.bs_size]; simp only at hl2; omega)
  simp only [Sg.bs_list] at N1 N2
  simp only at HT
  obtain ⟨ka, hka⟩ : ∃ k, k = Lx.numV a 3 := ⟨_, rfl⟩
  obtain ⟨kb, hkb⟩ : ∃ k, k = Lx.numV b 3 := ⟨_, rfl⟩
  obtain ⟨oa, hoa⟩ : ∃ k, k = Lx.numB a 3 := ⟨_, rfl⟩
  obtain ⟨ob, hob⟩ : ∃ k, k = Lx.numB b 3 := ⟨_, rfl⟩
  rw [← hka, ← hoa] at N1
  rw [← hkb, ← hob] at N2
  rw [← hka, ← hoa, ← hkb, ← hob] at HT
  generalize Sg.twoP t.data.toList c = tw at HT ⊢
  generalize Sg.bs a = sa at HC N1
  generalize Sg.bs b = sb at HC N2
  clear hq hl1 hl2 htl hka hkb hoa hob
  go_enter Tryz.func96, Tryz.ntmps96
  go_wp2_with fail
  refine HC.out.mono ?_
  rintro e w1 ⟨rfl, hb⟩
  have HB := Lib.hid hb
  clear hb
  go_wp2_with fail
  refine (N1.out _).mono ?_
  rintro e w2 ⟨rfl, hb⟩
  have HB2 := Lib.hid (HB.out.trans (hb.mono HB.out.size))
  clear hb
  go_wp2_with fail
  refine (N2.out _).mono ?_
  rintro e w3 ⟨rfl, hb⟩
  have HB3 := Lib.hid (HB2.out.trans (hb.mono HB2.out.size))
  clear hb
  cases f <;> cases oa <;> cases ob <;> (
  go_wp2_with fail
  go_ret3
  exact RetTwo.of HT.out HB3.out)
end Go.Proofs.YtkmimjngmfdpmaaGreatDoor
