/- DERIVED: THE SHELF's CONTRACTS AT THIS DUMP, IN PLAIN WORDS (tools/lay-plain.mjs out of 'TryShelf.lean', which tools/lay-shelf.mjs wrote): THE SAME DECLARATIONS UNDER THE SAME NAMES: 'import', 'namespace', 'open', 'def', 'theorem' AND NOTHING ELSE: no command of the shelf's: FOR A HAND-IN. Each laying: the table of numbers ('.._ren') and one theorem, a field a fact of the dump's own or the .. -/
import Derived.Shelf.Strings.Builder1
import Derived.Shelf.Strings.Builder2
import Derived.Shelf.Small.Strs
import Derived.Shelf.Strings.BuilderF
import Derived.Shelf.Strings.BuilderK
import Derived.Shelf.Strings.Builder2Cap
import Derived.Shelf.Strconv.Itoa0
import Derived.Shelf.Strconv.Itoa1
import Derived.Shelf.LaysM
import Derived.Shelf.Strconv.Itoa2
import Derived.Shelf.Strconv.Itoa3
import Derived.Shelf.Strings.Search1
import Derived.Shelf.Strings.Prefix
import Derived.Shelf.Bits.Mul64
import Derived.Shelf.Strings.Repeat
import Derived.Shelf.Strings.BuilderCap
import Derived.Test.YtenmkbpdkfhbjaaProg
import Derived.Test.YtenmkbpdkfhbjaaRbGlossPlain
import Derived.Lib.Strings
import Derived.Lib.IndexBytes
import Derived.Deep.DeepCutAuto
import Derived.Deep.Onto
namespace Go.Proofs
open Go.Shelf
def Try.lays169_ren : Go.Shelf.Ren := ⟨fun | 169 => 27 | n => n, fun | 70 => 82 | 9 => 9 | 0 => 0 | 72 => 85 | 37 => 83 | 127 => 97 | 3 => 3 | 5 => 5 | n => n, fun | n => n⟩
theorem Try.lays169 : Go.Proofs.Lays.n169 Try.prog Try.lays169_ren := {
  mixed := by kernel_rfl
  f169 := Try.func27.trans (congrArg some (by kernel_rfl))
  t0 := Try.underlying0
  a0 := Try.isAgg0
  z0 := Try.sizeOf0
  v0 := Try.zeroValue0
  t3 := Try.underlying3
  a3 := Try.isAgg3
  z3 := Try.sizeOf3
  v3 := Try.zeroValue3
  t9 := Try.underlying9
  a9 := Try.isAgg9
  z9 := Try.sizeOf9
  v9 := Try.zeroValue9
  t37 := Try.underlying83
  a37 := Try.isAgg83
  z37 := Try.sizeOf83
  v37 := Try.zeroValue83
  t70 := Try.underlying82
  a70 := Try.isAgg82
  z70 := Try.sizeOf82
  v70 := Try.zeroValue82
  t72 := Try.underlying85
  a72 := Try.isAgg85
  z72 := Try.sizeOf85
  v72 := Try.zeroValue85
  t127 := Try.underlying97
  a127 := Try.isAgg97
  z127 := Try.sizeOf97
  v127 := Try.zeroValue97 }
theorem Try.Builder_Extra_169 : Builder.Extra Try.prog Try.lays169_ren := {
  sizeBuilder := by kernel_rfl
  liesBuilder := by kernel_rfl
  t5 := Try.underlying5
  a5 := Try.isAgg5
  z5 := Try.sizeOf5
  v5 := Try.zeroValue5
  infoByte := by kernel_rfl
  cellsByte := by kernel_rfl
  sizeByte := by kernel_rfl
  neB5 := by decide }
open Go.RowKit in
/-- (*strings.Builder).String: "String returns the accumulated string.": WHATEVER THE BUILDER HOLDS. (LAID: no walk: one application.) -/
theorem Try.Builder_String_any (B b : Nat) (l : List UInt8) (w : World) (h : Lib.IsBuilder 85 5 B b (Lib.byteCells l) w) (hBw : B ≤ w.heap.size) :
    Calls Try.prog 27 #[.pointer (some ⟨b, 0, none⟩)] w fun e w' => e = .returned (.string ⟨l.toArray⟩) ∧ Below B w w' := Any.Builder_String_any Try.lays169 Try.Builder_Extra_169 B b l w h hBw
def Try.lays137_ren : Go.Shelf.Ren := ⟨fun | 137 => 82 | 217 => 88 | 266 => 91 | n => n, fun | 9 => 9 | 5 => 5 | 3 => 3 | n => n, fun | n => n⟩
theorem Try.lays137 : Go.Proofs.Lays.n137 Try.prog Try.lays137_ren := {
  mixed := by kernel_rfl
  f137 := Try.func82.trans (congrArg some (by kernel_rfl))
  f217 := Try.func88.trans (congrArg some (by kernel_rfl))
  f266 := Try.func91.trans (congrArg some (by kernel_rfl))
  t3 := Try.underlying3
  a3 := Try.isAgg3
  z3 := Try.sizeOf3
  v3 := Try.zeroValue3
  t5 := Try.underlying5
  a5 := Try.isAgg5
  z5 := Try.sizeOf5
  v5 := Try.zeroValue5
  t9 := Try.underlying9
  a9 := Try.isAgg9
  z9 := Try.sizeOf9
  v9 := Try.zeroValue9 }
open Go.RowKit in
/-- strings.IndexByte: "IndexByte returns the index of the first instance of c in s, or -1 if c is not present in s.": IT RETURNS 'Lib.indexByte s c'; the world is as it was. (LAID: no walk: one application.) -/
theorem Try.strings_IndexByte (s : ByteArray) (c : Int) (w : World) :
    Calls Try.prog 82 #[.string s, .int .u8 c] w fun e w' => e = .returned (.int .i64 (Lib.indexByte s.data.toList c.toNat.toUInt8)) ∧ w' = w := Any.strings_IndexByte Try.lays137 s c w
def Try.lays171_ren : Go.Shelf.Ren := ⟨fun | 171 => 70 | 243 => 73 | 246 => 75 | 283 => 78 | 284 => 79 | 285 => 80 | 286 => 81 | 129 => 84 | 317 => 83 | 318 => 85 | 319 => 86 | 320 => 87 | 337 => 89 | 338 => 90 | n => n, fun | 3 => 3 | 9 => 9 | 2 => 2 | 4 => 4 | 171 => 138 | 0 => 0 | 53 => 139 | 37 => 83 | 5 => 5 | 173 => 142 | 212 => 147 | 51 => 110 | 20 => 20 | 213 => 148 | 46 => 149 | 232 => 152 | 233 => 153 | n => n, fun | 17 => 0 | 18 => 1 | 19 => 2 | n => n⟩
theorem Try.lays171 : Go.Proofs.Lays.n171 Try.prog Try.lays171_ren := {
  mixed := by kernel_rfl
  f129 := Try.func84.trans (congrArg some (by kernel_rfl))
  f171 := Try.func70.trans (congrArg some (by kernel_rfl))
  f243 := Try.func73.trans (congrArg some (by kernel_rfl))
  f246 := Try.func75.trans (congrArg some (by kernel_rfl))
  f283 := Try.func78.trans (congrArg some (by kernel_rfl))
  f284 := Try.func79.trans (congrArg some (by kernel_rfl))
  f285 := Try.func80.trans (congrArg some (by kernel_rfl))
  f286 := Try.func81.trans (congrArg some (by kernel_rfl))
  f317 := Try.func83.trans (congrArg some (by kernel_rfl))
  f318 := Try.func85.trans (congrArg some (by kernel_rfl))
  f319 := Try.func86.trans (congrArg some (by kernel_rfl))
  f320 := Try.func87.trans (congrArg some (by kernel_rfl))
  f337 := Try.func89.trans (congrArg some (by kernel_rfl))
  f338 := Try.func90.trans (congrArg some (by kernel_rfl))
  t0 := Try.underlying0
  a0 := Try.isAgg0
  z0 := Try.sizeOf0
  v0 := Try.zeroValue0
  t2 := Try.underlying2
  a2 := Try.isAgg2
  z2 := Try.sizeOf2
  v2 := Try.zeroValue2
  t3 := Try.underlying3
  a3 := Try.isAgg3
  z3 := Try.sizeOf3
  v3 := Try.zeroValue3
  t4 := Try.underlying4
  a4 := Try.isAgg4
  z4 := Try.sizeOf4
  v4 := Try.zeroValue4
  t5 := Try.underlying5
  a5 := Try.isAgg5
  z5 := Try.sizeOf5
  v5 := Try.zeroValue5
  t9 := Try.underlying9
  a9 := Try.isAgg9
  z9 := Try.sizeOf9
  v9 := Try.zeroValue9
  t20 := Try.underlying20
  a20 := Try.isAgg20
  z20 := Try.sizeOf20
  v20 := Try.zeroValue20
  t37 := Try.underlying83
  a37 := Try.isAgg83
  z37 := Try.sizeOf83
  v37 := Try.zeroValue83
  t46 := Try.underlying149
  a46 := Try.isAgg149
  z46 := Try.sizeOf149
  v46 := Try.zeroValue149
  t51 := Try.underlying110
  a51 := Try.isAgg110
  z51 := Try.sizeOf110
  v51 := Try.zeroValue110
  t53 := Try.underlying139
  a53 := Try.isAgg139
  z53 := Try.sizeOf139
  v53 := Try.zeroValue139
  t171 := Try.underlying138
  a171 := Try.isAgg138
  z171 := Try.sizeOf138
  v171 := Try.zeroValue138
  t173 := Try.underlying142
  a173 := Try.isAgg142
  z173 := Try.sizeOf142
  v173 := Try.zeroValue142
  t212 := Try.underlying147
  a212 := Try.isAgg147
  z212 := Try.sizeOf147
  v212 := Try.zeroValue147
  t213 := Try.underlying148
  a213 := Try.isAgg148
  z213 := Try.sizeOf148
  t232 := Try.underlying152
  a232 := Try.isAgg152
  z232 := Try.sizeOf152
  v232 := Try.zeroValue152
  t233 := Try.underlying153
  a233 := Try.isAgg153
  z233 := Try.sizeOf153
  v233 := Try.zeroValue153
  g17 := by kernel_rfl
  g18 := by kernel_rfl
  g19 := by kernel_rfl }
open Go.RowKit Go.Sort Go.Lib in
/-- THE ROAD WITHOUT THE TABLE: 0 <= i < 100: NO PREMISE ON THE WORLD, AND THE WORLD IS AS IT WAS: a row that keeps its argument in that range need list no table ('laid = []'). (LAID: no walk: one application.) -/
theorem Try.strconv_Itoa_small (i : Nat) (hi : i < 100) (w : World) :
    Calls Try.prog 70 #[.int .i64 i] w fun e w' => e = .returned (.string ⟨(Lib.decDigits i).toArray⟩) ∧ w' = w := Any.strconv_Itoa_small Try.lays171 i hi w
def Try.lays105_ren : Go.Shelf.Ren := ⟨fun | 105 => 97 | 212 => 100 | 99 => 101 | 165 => 102 | 166 => 61 | 170 => 103 | 169 => 27 | 263 => 104 | 264 => 105 | 206 => 106 | 240 => 64 | 241 => 107 | 276 => 69 | 277 => 108 | n => n, fun | 9 => 9 | 3 => 3 | 4 => 4 | 20 => 20 | 0 => 0 | 46 => 149 | 109 => 156 | 5 => 5 | 72 => 85 | 76 => 124 | 51 => 110 | 146 => 160 | 53 => 139 | 148 => 162 | 70 => 82 | 37 => 83 | 75 => 123 | 127 => 97 | 164 => 131 | 80 => 89 | n => n, fun | n => n⟩
theorem Try.lays105 : Go.Proofs.Lays.n105 Try.prog Try.lays105_ren := {
  mixed := by kernel_rfl
  f99 := Try.func101.trans (congrArg some (by kernel_rfl))
  f105 := Try.func97.trans (congrArg some (by kernel_rfl))
  f165 := Try.func102.trans (congrArg some (by kernel_rfl))
  f166 := Try.func61.trans (congrArg some (by kernel_rfl))
  f169 := Try.func27.trans (congrArg some (by kernel_rfl))
  f170 := Try.func103.trans (congrArg some (by kernel_rfl))
  f206 := Try.func106.trans (congrArg some (by kernel_rfl))
  f212 := Try.func100.trans (congrArg some (by kernel_rfl))
  f240 := Try.func64.trans (congrArg some (by kernel_rfl))
  f241 := Try.func107.trans (congrArg some (by kernel_rfl))
  f263 := Try.func104.trans (congrArg some (by kernel_rfl))
  f264 := Try.func105.trans (congrArg some (by kernel_rfl))
  f276 := Try.func69.trans (congrArg some (by kernel_rfl))
  f277 := Try.func108.trans (congrArg some (by kernel_rfl))
  t0 := Try.underlying0
  a0 := Try.isAgg0
  z0 := Try.sizeOf0
  v0 := Try.zeroValue0
  t3 := Try.underlying3
  a3 := Try.isAgg3
  z3 := Try.sizeOf3
  v3 := Try.zeroValue3
  t4 := Try.underlying4
  a4 := Try.isAgg4
  z4 := Try.sizeOf4
  v4 := Try.zeroValue4
  t5 := Try.underlying5
  a5 := Try.isAgg5
  z5 := Try.sizeOf5
  v5 := Try.zeroValue5
  t9 := Try.underlying9
  a9 := Try.isAgg9
  z9 := Try.sizeOf9
  v9 := Try.zeroValue9
  t20 := Try.underlying20
  a20 := Try.isAgg20
  z20 := Try.sizeOf20
  v20 := Try.zeroValue20
  t37 := Try.underlying83
  a37 := Try.isAgg83
  z37 := Try.sizeOf83
  v37 := Try.zeroValue83
  t46 := Try.underlying149
  a46 := Try.isAgg149
  z46 := Try.sizeOf149
  v46 := Try.zeroValue149
  t51 := Try.underlying110
  a51 := Try.isAgg110
  z51 := Try.sizeOf110
  v51 := Try.zeroValue110
  t53 := Try.underlying139
  a53 := Try.isAgg139
  z53 := Try.sizeOf139
  v53 := Try.zeroValue139
  t70 := Try.underlying82
  a70 := Try.isAgg82
  z70 := Try.sizeOf82
  v70 := Try.zeroValue82
  t72 := Try.underlying85
  a72 := Try.isAgg85
  z72 := Try.sizeOf85
  v72 := Try.zeroValue85
  t75 := Try.underlying123
  a75 := Try.isAgg123
  z75 := Try.sizeOf123
  v75 := Try.zeroValue123
  t76 := Try.underlying124
  a76 := Try.isAgg124
  z76 := Try.sizeOf124
  v76 := Try.zeroValue124
  t109 := Try.underlying156
  a109 := Try.isAgg156
  z109 := Try.sizeOf156
  v109 := Try.zeroValue156
  t127 := Try.underlying97
  a127 := Try.isAgg97
  z127 := Try.sizeOf97
  v127 := Try.zeroValue97
  t146 := Try.underlying160
  a146 := Try.isAgg160
  z146 := Try.sizeOf160
  v146 := Try.zeroValue160
  t148 := Try.underlying162
  a148 := Try.isAgg162
  z148 := Try.sizeOf162
  v148 := Try.zeroValue162
  t164 := Try.underlying131
  a164 := Try.isAgg131
  z164 := Try.sizeOf131
  v164 := Try.zeroValue131 }
theorem Try.Builder_Extra_105 : Builder.Extra Try.prog Try.lays105_ren := {
  sizeBuilder := by kernel_rfl
  liesBuilder := by kernel_rfl
  t5 := Try.underlying5
  a5 := Try.isAgg5
  z5 := Try.sizeOf5
  v5 := Try.zeroValue5
  infoByte := by kernel_rfl
  cellsByte := by kernel_rfl
  sizeByte := by kernel_rfl
  neB5 := by decide }
open Go.RowKit Go.Lib in
/-- **strings.Repeat: count ≥ 0, the result within one allocation: count copies of s.** (LAID: no walk: one application.) -/
theorem Try.strings_Repeat (s : ByteArray) (c : Nat) (w : World) (hc : c ≤ 9223372036854775807) (hlen : s.size * c ≤ 140737488355328) :
    Calls Try.prog 97 #[.string s, .int .i64 c] w fun e w' => e = .returned (.string ⟨(Lib.repeatL s.data.toList c).toArray⟩) ∧ Below w.heap.size w w' := Any.strings_Repeat Try.lays105 Try.Builder_Extra_105 s c w hc hlen
end Go.Proofs
namespace Go.Proofs.Ytenmkbpdkfhbjaa
open Go.RowKit



end Go.Proofs.Ytenmkbpdkfhbjaa
namespace Go.Proofs.Ytenmkbpdkfhbjaa
open Go.RowKit
def Lx.known : Lx.Lexicon := ⟨[⟨⟨#[110, 102, 114]⟩, 1, ⟨#[103, 111, 111, 100]⟩, 2⟩, ⟨⟨#[110]⟩, 2, ⟨#[]⟩, 1⟩], [⟨1, ⟨#[116]⟩, ⟨#[102, 101, 109]⟩, 1⟩], [⟨⟨#[102]⟩, ⟨#[104, 105, 115]⟩, 1⟩, ⟨⟨#[114]⟩, ⟨#[116, 111]⟩, 0⟩]⟩

theorem rds_block {α : Type} {en : α → List Value} {size : Nat} {w : World} {g c : Nat} {cs : Array Value} {t : TypeId} {fr : Nat × Nat} {B : Nat} {xs : List α} (hu : ∀ x, (en x).length = size) (hh : w.heap[g]? = some (.cells cs t fr)) (hc : cs.toList = xs.flatMap en) (hB : g < B) (hl : xs.length ≤ c) (hm : c ≤ 9223372036854775807) :
    RdS w B size en (.slice (some ⟨g, 0, none⟩) xs.length c) xs := by
  refine ⟨some ⟨g, 0, none⟩, c, rfl, hl, hm, fun _ => ⟨g, 0, rfl, hB, fun i x hx j u hj => ?_⟩⟩
  have h1 := flat_at hu xs i x hx j u hj
  rw [← hc] at h1
  simp only [World.cell?, hh, Option.isSome_none, Bool.false_eq_true, if_false]
  rw [← h1]
  simp [Nat.zero_add]



end Go.Proofs.Ytenmkbpdkfhbjaa
namespace Lx
structure Match where
  entry : Int
  ending : Int
  clitics : List Int
  long : Nat
/-- p begins s from place k on -/
def pre (s : ByteArray) (k : Nat) (p : ByteArray) : Bool := p.data.toList.isPrefixOf (s.data.toList.drop k)
/-- entry and ending of a form are there -/
structure Fits (x : Lexicon) (f : Form) : Prop where
  ent : 0 ≤ f.entry ∧ f.entry < x.entries.length
  fin : f.ending < 0 ∨ (0 ≤ f.ending ∧ f.ending < x.endings.length)
theorem Valid.fits {x : Lexicon} {f : Form} (h : Valid x f) : Fits x f := ⟨h.ent, h.fin.imp (fun q => by omega) id⟩
end Lx
namespace Go.Proofs.Ytenmkbpdkfhbjaa
open Go.RowKit

/-- As RdS, the block within 'ok'. -/
def RdX {α : Type} (w : World) (ok : Nat → Prop) (size : Nat) (enc : α → List Value) (v : Value) (xs : List α) : Prop :=
  ∃ A c, v = .slice A xs.length c ∧ xs.length ≤ c ∧ c ≤ 9223372036854775807 ∧
    (0 < xs.length → ∃ b off, A = some ⟨b, off, none⟩ ∧ ok b ∧ ∀ i x, xs[i]? = some x → ∀ j u, (enc x)[j]? = some u → w.cell? ⟨b, off + i * size + j, none⟩ = some u)
theorem RdX.of {α : Type} {w : World} {B size : Nat} {enc : α → List Value} {v : Value} {xs : List α} (h : RdS w B size enc v xs) : RdX w (· < B) size enc v xs := h
theorem RdX.to {α : Type} {w : World} {B size : Nat} {enc : α → List Value} {v : Value} {xs : List α} {ok : Nat → Prop} (h : RdX w ok size enc v xs) (hB : ∀ b, ok b → b < B) : RdS w B size enc v xs := by
  obtain ⟨A, c, hv, hl, hc, hh⟩ := h
  refine ⟨A, c, hv, hl, hc, fun h0 => ?_⟩
  obtain ⟨b, off, hA, hb, hcell⟩ := hh h0
  exact ⟨b, off, hA, hB b hb, hcell⟩
theorem RdX.keep {α : Type} {w w' : World} {size : Nat} {enc : α → List Value} {v : Value} {xs : List α} {ok ok' : Nat → Prop} (h : RdX w ok size enc v xs) (hk : ∀ b, ok b → ok' b ∧ w'.heap[b]? = w.heap[b]?) : RdX w' ok' size enc v xs := by
  obtain ⟨A, c, hv, hl, hc, hh⟩ := h
  refine ⟨A, c, hv, hl, hc, fun h0 => ?_⟩
  obtain ⟨b, off, hA, hb, hcell⟩ := hh h0
  exact ⟨b, off, hA, (hk b hb).1, fun i x hx j u hu => (World.cell?_of_block (a := ⟨b, off + i * size + j, none⟩) (hk b hb).2).trans (hcell i x hx j u hu)⟩





end Go.Proofs.Ytenmkbpdkfhbjaa
namespace Go.Proofs.Ytenmkbpdkfhbjaa
open Go.RowKit






end Go.Proofs.Ytenmkbpdkfhbjaa
namespace Go.Proofs.Ytenmkbpdkfhbjaa
open Go.RowKit



end Go.Proofs.Ytenmkbpdkfhbjaa
namespace Go.Proofs.Ytenmkbpdkfhbjaa
open Go.RowKit




theorem grown_of_below {w w' : World} {row : Option Nat} (h : Below w.heap.size w w') : w.grownBy w' row := ⟨h.os, h.tape, h.output, h.size, fun k hk _ => h.block k hk⟩
theorem grown_after {a b c : World} {row row' : Option Nat} (h : a.grownBy b row) (k : b.grownBy c row') (hr : row' = row ∨ ∃ g, row' = some g ∧ a.heap.size ≤ g) : a.grownBy c row :=
  ⟨k.os.trans h.os, k.tape.trans h.tape, k.output.trans h.output, Nat.le_trans h.size k.size, fun i hi hne => (k.block i (Nat.lt_of_lt_of_le hi h.size) (by
    rcases hr with e | ⟨g, e, hg⟩
    · rw [e]; exact hne
    · rw [e]; intro q; cases q; omega)).trans (h.block i hi hne)⟩


theorem rdx_of_own {α : Type} {enc : α → List Value} {size : Nat} {w : World} {base : Nat} {e : TypeId} {v : Value} {xs : List α} (hu : ∀ x, (enc x).length = size) (h : w.ownsRow base e size v xs.length (xs.flatMap enc)) : RdX w (fun b => base ≤ b ∧ b < w.heap.size) size enc v xs := by
  obtain ⟨_, h2⟩ := id h
  rcases h2 with ⟨rfl, h0⟩ | ⟨g, cap, cur, rfl, hg, hh, hle, hm, hs, ht⟩
  · exact ⟨none, 0, by rw [h0], by omega, by omega, fun hp => by omega⟩
  · refine ⟨some ⟨g, 0, none⟩, cap, rfl, hle, by simpa [maxLen] using hm, fun _ => ⟨g, 0, rfl, ⟨hg, (h.lt g rfl).2⟩, fun i x hx j u hj => ?_⟩⟩
    have := h.cells rfl (i * size + j) u (flat_at hu xs i x hx j u hj)
    rw [addr_add] at this
    rw [← this, Nat.add_assoc]




end Go.Proofs.Ytenmkbpdkfhbjaa
namespace Lx
end Lx
namespace Go.Proofs.Ytenmkbpdkfhbjaa
open Go.RowKit







end Go.Proofs.Ytenmkbpdkfhbjaa
