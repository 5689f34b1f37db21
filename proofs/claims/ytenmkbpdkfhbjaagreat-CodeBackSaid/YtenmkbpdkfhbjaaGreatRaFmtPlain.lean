/- DERIVED: THE SHELF's CONTRACTS AT THIS DUMP, IN PLAIN WORDS (tools/lay-plain.mjs out of 'TryzShelf.lean', which tools/lay-shelf.mjs wrote): THE SAME DECLARATIONS UNDER THE SAME NAMES: 'import', 'namespace', 'open', 'def', 'theorem' AND NOTHING ELSE: no command of the shelf's: FOR A HAND-IN. Each laying: the table of numbers ('.._ren') and one theorem, a field a fact of the dump's own or the .. -/
import Derived.Shelf.Strings.Builder1
import Derived.Shelf.Strings.Builder2
import Derived.Shelf.Small.Strs
import Derived.Shelf.Strings.BuilderF
import Derived.Shelf.Strings.BuilderK
import Derived.Shelf.Strings.Builder2Cap
import Derived.Shelf.Strconv.Itoa0
import Derived.Shelf.Strconv.Itoa1
import Derived.Shelf.LaysM
import Derived.Shelf.Strconv.Itoa2
import Derived.Shelf.Strconv.Itoa3
import Derived.Shelf.Strings.Search1
import Derived.Shelf.Strings.Prefix
import Derived.Shelf.Bits.Mul64
import Derived.Shelf.Strings.Repeat
import Derived.Shelf.Strings.BuilderCap
import Derived.Test.YtenmkbpdkfhbjaaGreatProg
import Derived.Test.YtenmkbpdkfhbjaaGreatRaGlossPlain
import Derived.Lib.Strings
import Derived.Lib.IndexBytes
import Derived.Deep.DeepCutAuto
import Derived.Deep.Onto
import Derived.Test.YtenmkbpdkfhbjaaGreatRaRegion
import Derived.Lib.ItoaLen
import Derived.Shelf.Strings.OnBuilder
namespace Go.Proofs
open Go.Shelf
def Tryz.lays169_ren : Go.Shelf.Ren := ⟨fun | 169 => 70 | n => n, fun | 70 => 121 | 9 => 9 | 0 => 0 | 72 => 124 | 37 => 122 | 127 => 156 | 3 => 3 | 5 => 5 | n => n, fun | n => n⟩
theorem Tryz.lays169 : Go.Proofs.Lays.n169 Tryz.prog Tryz.lays169_ren := {
  mixed := by kernel_rfl
  f169 := Tryz.func70.trans (congrArg some (by kernel_rfl))
  t0 := Tryz.underlying0
  a0 := Tryz.isAgg0
  z0 := Tryz.sizeOf0
  v0 := Tryz.zeroValue0
  t3 := Tryz.underlying3
  a3 := Tryz.isAgg3
  z3 := Tryz.sizeOf3
  v3 := Tryz.zeroValue3
  t9 := Tryz.underlying9
  a9 := Tryz.isAgg9
  z9 := Tryz.sizeOf9
  v9 := Tryz.zeroValue9
  t37 := Tryz.underlying122
  a37 := Tryz.isAgg122
  z37 := Tryz.sizeOf122
  v37 := Tryz.zeroValue122
  t70 := Tryz.underlying121
  a70 := Tryz.isAgg121
  z70 := Tryz.sizeOf121
  v70 := Tryz.zeroValue121
  t72 := Tryz.underlying124
  a72 := Tryz.isAgg124
  z72 := Tryz.sizeOf124
  v72 := Tryz.zeroValue124
  t127 := Tryz.underlying156
  a127 := Tryz.isAgg156
  z127 := Tryz.sizeOf156
  v127 := Tryz.zeroValue156 }
theorem Tryz.Builder_Extra_169 : Builder.Extra Tryz.prog Tryz.lays169_ren := {
  sizeBuilder := by kernel_rfl
  liesBuilder := by kernel_rfl
  t5 := Tryz.underlying5
  a5 := Tryz.isAgg5
  z5 := Tryz.sizeOf5
  v5 := Tryz.zeroValue5
  infoByte := by kernel_rfl
  cellsByte := by kernel_rfl
  sizeByte := by kernel_rfl
  neB5 := by decide }
open Go.RowKit in
/-- (*strings.Builder).String: "String returns the accumulated string.": WHATEVER THE BUILDER HOLDS. (LAID: no walk: one application.) -/
theorem Tryz.Builder_String_any (B b : Nat) (l : List UInt8) (w : World) (h : Lib.IsBuilder 124 5 B b (Lib.byteCells l) w) (hBw : B ≤ w.heap.size) :
    Calls Tryz.prog 70 #[.pointer (some ⟨b, 0, none⟩)] w fun e w' => e = .returned (.string ⟨l.toArray⟩) ∧ Below B w w' := Any.Builder_String_any Tryz.lays169 Tryz.Builder_Extra_169 B b l w h hBw
def Tryz.lays137_ren : Go.Shelf.Ren := ⟨fun | 137 => 167 | 217 => 173 | 266 => 176 | n => n, fun | 9 => 9 | 5 => 5 | 3 => 3 | n => n, fun | n => n⟩
theorem Tryz.lays137 : Go.Proofs.Lays.n137 Tryz.prog Tryz.lays137_ren := {
  mixed := by kernel_rfl
  f137 := Tryz.func167.trans (congrArg some (by kernel_rfl))
  f217 := Tryz.func173.trans (congrArg some (by kernel_rfl))
  f266 := Tryz.func176.trans (congrArg some (by kernel_rfl))
  t3 := Tryz.underlying3
  a3 := Tryz.isAgg3
  z3 := Tryz.sizeOf3
  v3 := Tryz.zeroValue3
  t5 := Tryz.underlying5
  a5 := Tryz.isAgg5
  z5 := Tryz.sizeOf5
  v5 := Tryz.zeroValue5
  t9 := Tryz.underlying9
  a9 := Tryz.isAgg9
  z9 := Tryz.sizeOf9
  v9 := Tryz.zeroValue9 }
open Go.RowKit in
/-- strings.IndexByte: "IndexByte returns the index of the first instance of c in s, or -1 if c is not present in s.": IT RETURNS 'Lib.indexByte s c'; the world is as it was. (LAID: no walk: one application.) -/
theorem Tryz.strings_IndexByte (s : ByteArray) (c : Int) (w : World) :
    Calls Tryz.prog 167 #[.string s, .int .u8 c] w fun e w' => e = .returned (.int .i64 (Lib.indexByte s.data.toList c.toNat.toUInt8)) ∧ w' = w := Any.strings_IndexByte Tryz.lays137 s c w
def Tryz.lays171_ren : Go.Shelf.Ren := ⟨fun | 171 => 155 | 243 => 158 | 246 => 160 | 283 => 163 | 284 => 164 | 285 => 165 | 286 => 166 | 129 => 169 | 317 => 168 | 318 => 170 | 319 => 171 | 320 => 172 | 337 => 174 | 338 => 175 | n => n, fun | 3 => 3 | 9 => 9 | 2 => 2 | 4 => 4 | 171 => 209 | 0 => 0 | 53 => 210 | 37 => 122 | 5 => 5 | 173 => 213 | 212 => 218 | 51 => 183 | 20 => 20 | 213 => 219 | 46 => 220 | 232 => 223 | 233 => 224 | n => n, fun | 17 => 0 | 18 => 1 | 19 => 2 | n => n⟩
theorem Tryz.lays171 : Go.Proofs.Lays.n171 Tryz.prog Tryz.lays171_ren := {
  mixed := by kernel_rfl
  f129 := Tryz.func169.trans (congrArg some (by kernel_rfl))
  f171 := Tryz.func155.trans (congrArg some (by kernel_rfl))
  f243 := Tryz.func158.trans (congrArg some (by kernel_rfl))
  f246 := Tryz.func160.trans (congrArg some (by kernel_rfl))
  f283 := Tryz.func163.trans (congrArg some (by kernel_rfl))
  f284 := Tryz.func164.trans (congrArg some (by kernel_rfl))
  f285 := Tryz.func165.trans (congrArg some (by kernel_rfl))
  f286 := Tryz.func166.trans (congrArg some (by kernel_rfl))
  f317 := Tryz.func168.trans (congrArg some (by kernel_rfl))
  f318 := Tryz.func170.trans (congrArg some (by kernel_rfl))
  f319 := Tryz.func171.trans (congrArg some (by kernel_rfl))
  f320 := Tryz.func172.trans (congrArg some (by kernel_rfl))
  f337 := Tryz.func174.trans (congrArg some (by kernel_rfl))
  f338 := Tryz.func175.trans (congrArg some (by kernel_rfl))
  t0 := Tryz.underlying0
  a0 := Tryz.isAgg0
  z0 := Tryz.sizeOf0
  v0 := Tryz.zeroValue0
  t2 := Tryz.underlying2
  a2 := Tryz.isAgg2
  z2 := Tryz.sizeOf2
  v2 := Tryz.zeroValue2
  t3 := Tryz.underlying3
  a3 := Tryz.isAgg3
  z3 := Tryz.sizeOf3
  v3 := Tryz.zeroValue3
  t4 := Tryz.underlying4
  a4 := Tryz.isAgg4
  z4 := Tryz.sizeOf4
  v4 := Tryz.zeroValue4
  t5 := Tryz.underlying5
  a5 := Tryz.isAgg5
  z5 := Tryz.sizeOf5
  v5 := Tryz.zeroValue5
  t9 := Tryz.underlying9
  a9 := Tryz.isAgg9
  z9 := Tryz.sizeOf9
  v9 := Tryz.zeroValue9
  t20 := Tryz.underlying20
  a20 := Tryz.isAgg20
  z20 := Tryz.sizeOf20
  v20 := Tryz.zeroValue20
  t37 := Tryz.underlying122
  a37 := Tryz.isAgg122
  z37 := Tryz.sizeOf122
  v37 := Tryz.zeroValue122
  t46 := Tryz.underlying220
  a46 := Tryz.isAgg220
  z46 := Tryz.sizeOf220
  v46 := Tryz.zeroValue220
  t51 := Tryz.underlying183
  a51 := Tryz.isAgg183
  z51 := Tryz.sizeOf183
  v51 := Tryz.zeroValue183
  t53 := Tryz.underlying210
  a53 := Tryz.isAgg210
  z53 := Tryz.sizeOf210
  v53 := Tryz.zeroValue210
  t171 := Tryz.underlying209
  a171 := Tryz.isAgg209
  z171 := Tryz.sizeOf209
  v171 := Tryz.zeroValue209
  t173 := Tryz.underlying213
  a173 := Tryz.isAgg213
  z173 := Tryz.sizeOf213
  v173 := Tryz.zeroValue213
  t212 := Tryz.underlying218
  a212 := Tryz.isAgg218
  z212 := Tryz.sizeOf218
  v212 := Tryz.zeroValue218
  t213 := Tryz.underlying219
  a213 := Tryz.isAgg219
  z213 := Tryz.sizeOf219
  t232 := Tryz.underlying223
  a232 := Tryz.isAgg223
  z232 := Tryz.sizeOf223
  v232 := Tryz.zeroValue223
  t233 := Tryz.underlying224
  a233 := Tryz.isAgg224
  z233 := Tryz.sizeOf224
  v233 := Tryz.zeroValue224
  g17 := by kernel_rfl
  g18 := by kernel_rfl
  g19 := by kernel_rfl }
open Go.RowKit Go.Sort Go.Lib in
/-- THE ROAD WITHOUT THE TABLE: 0 <= i < 100: NO PREMISE ON THE WORLD, AND THE WORLD IS AS IT WAS: a row that keeps its argument in that range need list no table ('laid = []'). (LAID: no walk: one application.) -/
theorem Tryz.strconv_Itoa_small (i : Nat) (hi : i < 100) (w : World) :
    Calls Tryz.prog 155 #[.int .i64 i] w fun e w' => e = .returned (.string ⟨(Lib.decDigits i).toArray⟩) ∧ w' = w := Any.strconv_Itoa_small Tryz.lays171 i hi w
def Tryz.lays105_ren : Go.Shelf.Ren := ⟨fun | 105 => 182 | 212 => 185 | 99 => 186 | 165 => 187 | 166 => 146 | 170 => 188 | 169 => 70 | 263 => 189 | 264 => 190 | 206 => 191 | 240 => 149 | 241 => 192 | 276 => 154 | 277 => 193 | n => n, fun | 9 => 9 | 3 => 3 | 4 => 4 | 20 => 20 | 0 => 0 | 46 => 220 | 109 => 227 | 5 => 5 | 72 => 124 | 76 => 196 | 51 => 183 | 146 => 230 | 53 => 210 | 148 => 232 | 70 => 121 | 37 => 122 | 75 => 195 | 127 => 156 | 164 => 203 | 80 => 128 | n => n, fun | n => n⟩
theorem Tryz.lays105 : Go.Proofs.Lays.n105 Tryz.prog Tryz.lays105_ren := {
  mixed := by kernel_rfl
  f99 := Tryz.func186.trans (congrArg some (by kernel_rfl))
  f105 := Tryz.func182.trans (congrArg some (by kernel_rfl))
  f165 := Tryz.func187.trans (congrArg some (by kernel_rfl))
  f166 := Tryz.func146.trans (congrArg some (by kernel_rfl))
  f169 := Tryz.func70.trans (congrArg some (by kernel_rfl))
  f170 := Tryz.func188.trans (congrArg some (by kernel_rfl))
  f206 := Tryz.func191.trans (congrArg some (by kernel_rfl))
  f212 := Tryz.func185.trans (congrArg some (by kernel_rfl))
  f240 := Tryz.func149.trans (congrArg some (by kernel_rfl))
  f241 := Tryz.func192.trans (congrArg some (by kernel_rfl))
  f263 := Tryz.func189.trans (congrArg some (by kernel_rfl))
  f264 := Tryz.func190.trans (congrArg some (by kernel_rfl))
  f276 := Tryz.func154.trans (congrArg some (by kernel_rfl))
  f277 := Tryz.func193.trans (congrArg some (by kernel_rfl))
  t0 := Tryz.underlying0
  a0 := Tryz.isAgg0
  z0 := Tryz.sizeOf0
  v0 := Tryz.zeroValue0
  t3 := Tryz.underlying3
  a3 := Tryz.isAgg3
  z3 := Tryz.sizeOf3
  v3 := Tryz.zeroValue3
  t4 := Tryz.underlying4
  a4 := Tryz.isAgg4
  z4 := Tryz.sizeOf4
  v4 := Tryz.zeroValue4
  t5 := Tryz.underlying5
  a5 := Tryz.isAgg5
  z5 := Tryz.sizeOf5
  v5 := Tryz.zeroValue5
  t9 := Tryz.underlying9
  a9 := Tryz.isAgg9
  z9 := Tryz.sizeOf9
  v9 := Tryz.zeroValue9
  t20 := Tryz.underlying20
  a20 := Tryz.isAgg20
  z20 := Tryz.sizeOf20
  v20 := Tryz.zeroValue20
  t37 := Tryz.underlying122
  a37 := Tryz.isAgg122
  z37 := Tryz.sizeOf122
  v37 := Tryz.zeroValue122
  t46 := Tryz.underlying220
  a46 := Tryz.isAgg220
  z46 := Tryz.sizeOf220
  v46 := Tryz.zeroValue220
  t51 := Tryz.underlying183
  a51 := Tryz.isAgg183
  z51 := Tryz.sizeOf183
  v51 := Tryz.zeroValue183
  t53 := Tryz.underlying210
  a53 := Tryz.isAgg210
  z53 := Tryz.sizeOf210
  v53 := Tryz.zeroValue210
  t70 := Tryz.underlying121
  a70 := Tryz.isAgg121
  z70 := Tryz.sizeOf121
  v70 := Tryz.zeroValue121
  t72 := Tryz.underlying124
  a72 := Tryz.isAgg124
  z72 := Tryz.sizeOf124
  v72 := Tryz.zeroValue124
  t75 := Tryz.underlying195
  a75 := Tryz.isAgg195
  z75 := Tryz.sizeOf195
  v75 := Tryz.zeroValue195
  t76 := Tryz.underlying196
  a76 := Tryz.isAgg196
  z76 := Tryz.sizeOf196
  v76 := Tryz.zeroValue196
  t109 := Tryz.underlying227
  a109 := Tryz.isAgg227
  z109 := Tryz.sizeOf227
  v109 := Tryz.zeroValue227
  t127 := Tryz.underlying156
  a127 := Tryz.isAgg156
  z127 := Tryz.sizeOf156
  v127 := Tryz.zeroValue156
  t146 := Tryz.underlying230
  a146 := Tryz.isAgg230
  z146 := Tryz.sizeOf230
  v146 := Tryz.zeroValue230
  t148 := Tryz.underlying232
  a148 := Tryz.isAgg232
  z148 := Tryz.sizeOf232
  v148 := Tryz.zeroValue232
  t164 := Tryz.underlying203
  a164 := Tryz.isAgg203
  z164 := Tryz.sizeOf203
  v164 := Tryz.zeroValue203 }
theorem Tryz.Builder_Extra_105 : Builder.Extra Tryz.prog Tryz.lays105_ren := {
  sizeBuilder := by kernel_rfl
  liesBuilder := by kernel_rfl
  t5 := Tryz.underlying5
  a5 := Tryz.isAgg5
  z5 := Tryz.sizeOf5
  v5 := Tryz.zeroValue5
  infoByte := by kernel_rfl
  cellsByte := by kernel_rfl
  sizeByte := by kernel_rfl
  neB5 := by decide }
open Go.RowKit Go.Lib in
/-- **strings.Repeat: count ≥ 0, the result within one allocation: count copies of s.** (LAID: no walk: one application.) -/
theorem Tryz.strings_Repeat (s : ByteArray) (c : Nat) (w : World) (hc : c ≤ 9223372036854775807) (hlen : s.size * c ≤ 140737488355328) :
    Calls Tryz.prog 182 #[.string s, .int .i64 c] w fun e w' => e = .returned (.string ⟨(Lib.repeatL s.data.toList c).toArray⟩) ∧ Below w.heap.size w w' := Any.strings_Repeat Tryz.lays105 Tryz.Builder_Extra_105 s c w hc hlen
end Go.Proofs
namespace Go.Proofs.YtenmkbpdkfhbjaaGreat
open Go.RowKit



end Go.Proofs.YtenmkbpdkfhbjaaGreat
namespace Go.Proofs.YtenmkbpdkfhbjaaGreat
open Go.RowKit
def Lx.known : Lx.Lexicon := ⟨[⟨⟨#[110, 102, 114]⟩, 1, ⟨#[103, 111, 111, 100]⟩, 2⟩, ⟨⟨#[110]⟩, 2, ⟨#[]⟩, 1⟩], [⟨1, ⟨#[116]⟩, ⟨#[102, 101, 109]⟩, 1⟩], [⟨⟨#[102]⟩, ⟨#[104, 105, 115]⟩, 1⟩, ⟨⟨#[114]⟩, ⟨#[116, 111]⟩, 0⟩]⟩

theorem rds_block {α : Type} {en : α → List Value} {size : Nat} {w : World} {g c : Nat} {cs : Array Value} {t : TypeId} {fr : Nat × Nat} {B : Nat} {xs : List α} (hu : ∀ x, (en x).length = size) (hh : w.heap[g]? = some (.cells cs t fr)) (hc : cs.toList = xs.flatMap en) (hB : g < B) (hl : xs.length ≤ c) (hm : c ≤ 9223372036854775807) :
    RdS w B size en (.slice (some ⟨g, 0, none⟩) xs.length c) xs := by
  refine ⟨some ⟨g, 0, none⟩, c, rfl, hl, hm, fun _ => ⟨g, 0, rfl, hB, fun i x hx j u hj => ?_⟩⟩
  have h1 := flat_at hu xs i x hx j u hj
  rw [← hc] at h1
  simp only [World.cell?, hh, Option.isSome_none, Bool.false_eq_true, if_false]
  rw [← h1]
  simp [Nat.zero_add]



end Go.Proofs.YtenmkbpdkfhbjaaGreat
namespace Lx
structure Match where
  entry : Int
  ending : Int
  clitics : List Int
  long : Nat
/-- p begins s from place k on -/
def pre (s : ByteArray) (k : Nat) (p : ByteArray) : Bool := p.data.toList.isPrefixOf (s.data.toList.drop k)
/-- entry and ending of a form are there -/
structure Fits (x : Lexicon) (f : Form) : Prop where
  ent : 0 ≤ f.entry ∧ f.entry < x.entries.length
  fin : f.ending < 0 ∨ (0 ≤ f.ending ∧ f.ending < x.endings.length)
theorem Valid.fits {x : Lexicon} {f : Form} (h : Valid x f) : Fits x f := ⟨h.ent, h.fin.imp (fun q => by omega) id⟩
end Lx
namespace Go.Proofs.YtenmkbpdkfhbjaaGreat
open Go.RowKit

/-- As RdS, the block within 'ok'. -/
def RdX {α : Type} (w : World) (ok : Nat → Prop) (size : Nat) (enc : α → List Value) (v : Value) (xs : List α) : Prop :=
  ∃ A c, v = .slice A xs.length c ∧ xs.length ≤ c ∧ c ≤ 9223372036854775807 ∧
    (0 < xs.length → ∃ b off, A = some ⟨b, off, none⟩ ∧ ok b ∧ ∀ i x, xs[i]? = some x → ∀ j u, (enc x)[j]? = some u → w.cell? ⟨b, off + i * size + j, none⟩ = some u)
theorem RdX.of {α : Type} {w : World} {B size : Nat} {enc : α → List Value} {v : Value} {xs : List α} (h : RdS w B size enc v xs) : RdX w (· < B) size enc v xs := h
theorem RdX.to {α : Type} {w : World} {B size : Nat} {enc : α → List Value} {v : Value} {xs : List α} {ok : Nat → Prop} (h : RdX w ok size enc v xs) (hB : ∀ b, ok b → b < B) : RdS w B size enc v xs := by
  obtain ⟨A, c, hv, hl, hc, hh⟩ := h
  refine ⟨A, c, hv, hl, hc, fun h0 => ?_⟩
  obtain ⟨b, off, hA, hb, hcell⟩ := hh h0
  exact ⟨b, off, hA, hB b hb, hcell⟩
theorem RdX.keep {α : Type} {w w' : World} {size : Nat} {enc : α → List Value} {v : Value} {xs : List α} {ok ok' : Nat → Prop} (h : RdX w ok size enc v xs) (hk : ∀ b, ok b → ok' b ∧ w'.heap[b]? = w.heap[b]?) : RdX w' ok' size enc v xs := by
  obtain ⟨A, c, hv, hl, hc, hh⟩ := h
  refine ⟨A, c, hv, hl, hc, fun h0 => ?_⟩
  obtain ⟨b, off, hA, hb, hcell⟩ := hh h0
  exact ⟨b, off, hA, (hk b hb).1, fun i x hx j u hu => (World.cell?_of_block (a := ⟨b, off + i * size + j, none⟩) (hk b hb).2).trans (hcell i x hx j u hu)⟩





end Go.Proofs.YtenmkbpdkfhbjaaGreat
namespace Go.Proofs.YtenmkbpdkfhbjaaGreat
open Go.RowKit






end Go.Proofs.YtenmkbpdkfhbjaaGreat
namespace Go.Proofs.YtenmkbpdkfhbjaaGreat
open Go.RowKit



end Go.Proofs.YtenmkbpdkfhbjaaGreat
namespace Go.Proofs.YtenmkbpdkfhbjaaGreat
open Go.RowKit




theorem grown_of_below {w w' : World} {row : Option Nat} (h : Below w.heap.size w w') : w.grownBy w' row := ⟨h.os, h.tape, h.output, h.size, fun k hk _ => h.block k hk⟩
theorem grown_after {a b c : World} {row row' : Option Nat} (h : a.grownBy b row) (k : b.grownBy c row') (hr : row' = row ∨ ∃ g, row' = some g ∧ a.heap.size ≤ g) : a.grownBy c row :=
  ⟨k.os.trans h.os, k.tape.trans h.tape, k.output.trans h.output, Nat.le_trans h.size k.size, fun i hi hne => (k.block i (Nat.lt_of_lt_of_le hi h.size) (by
    rcases hr with e | ⟨g, e, hg⟩
    · rw [e]; exact hne
    · rw [e]; intro q; cases q; omega)).trans (h.block i hi hne)⟩


theorem rdx_of_own {α : Type} {enc : α → List Value} {size : Nat} {w : World} {base : Nat} {e : TypeId} {v : Value} {xs : List α} (hu : ∀ x, (enc x).length = size) (h : w.ownsRow base e size v xs.length (xs.flatMap enc)) : RdX w (fun b => base ≤ b ∧ b < w.heap.size) size enc v xs := by
  obtain ⟨_, h2⟩ := id h
  rcases h2 with ⟨rfl, h0⟩ | ⟨g, cap, cur, rfl, hg, hh, hle, hm, hs, ht⟩
  · exact ⟨none, 0, by rw [h0], by omega, by omega, fun hp => by omega⟩
  · refine ⟨some ⟨g, 0, none⟩, cap, rfl, hle, by simpa [maxLen] using hm, fun _ => ⟨g, 0, rfl, ⟨hg, (h.lt g rfl).2⟩, fun i x hx j u hj => ?_⟩⟩
    have := h.cells rfl (i * size + j) u (flat_at hu xs i x hx j u hj)
    rw [addr_add] at this
    rw [← this, Nat.add_assoc]




end Go.Proofs.YtenmkbpdkfhbjaaGreat
namespace Lx
end Lx
namespace Go.Proofs.YtenmkbpdkfhbjaaGreat
open Go.RowKit







end Go.Proofs.YtenmkbpdkfhbjaaGreat
namespace Go.Proofs.YtenmkbpdkfhbjaaGreat
open Go.RowKit

/-- how one element lies in cells -/
structure RowK (α : Type) where
  size : Nat
  rd : World → (Nat → Prop) → List Value → α → Prop
  len : ∀ {w : World} {ok : Nat → Prop} {cs : List Value} {a : α}, rd w ok cs a → cs.length = size
  keep : ∀ {w w' : World} {ok ok' : Nat → Prop} {cs : List Value} {a : α}, (∀ b, ok b → ok' b ∧ w'.heap[b]? = w.heap[b]?) → rd w ok cs a → rd w' ok' cs a
section
variable {α : Type} {K : RowK α}
inductive grows (K : RowK α) (w : World) (ok : Nat → Prop) : List Value → List α → Prop
  | nil : grows K w ok [] []
  | cons {cs r : List Value} {a : α} {xs : List α} (h : K.rd w ok cs a) (t : grows K w ok r xs) : grows K w ok (cs ++ r) (a :: xs)
theorem grows.keep {w w' : World} {ok ok' : Nat → Prop} (hk : ∀ b, ok b → ok' b ∧ w'.heap[b]? = w.heap[b]?) {cs : List Value} {xs : List α} (h : grows K w ok cs xs) : grows K w' ok' cs xs := by
  induction h with
  | nil => exact .nil
  | cons h _ ih => exact .cons (K.keep hk h) ih
theorem grows.snoc {w : World} {ok : Nat → Prop} {c : List Value} {a : α} (hc : K.rd w ok c a) {cs : List Value} {xs : List α} (h : grows K w ok cs xs) : grows K w ok (cs ++ c) (xs ++ [a]) := by
  induction h with
  | nil => have := grows.cons hc grows.nil; simpa using this
  | cons h _ ih => rw [List.append_assoc]; exact .cons h ih
theorem grows.at {w : World} {ok : Nat → Prop} {cs : List Value} {xs : List α} (h : grows K w ok cs xs) : ∀ {i : Nat} {a : α}, xs[i]? = some a → ∃ c, K.rd w ok c a ∧ ∀ (j : Nat) (u : Value), c[j]? = some u → cs[i * K.size + j]? = some u := by
  induction h with
  | nil => intro i a h; simp at h
  | @cons c r a xs h _ ih =>
    intro i a' h'
    cases i with
    | zero =>
      simp at h'
      subst h'
      refine ⟨c, h, fun j u hj => ?_⟩
      rw [Nat.zero_mul, Nat.zero_add, List.getElem?_append_left (List.getElem?_eq_some_iff.1 hj).1]
      exact hj
    | succ i =>
      simp at h'
      obtain ⟨c', h1, h2⟩ := ih h'
      refine ⟨c', h1, fun j u hj => ?_⟩
      have hl := K.len h
      rw [Nat.succ_mul, List.getElem?_append_right (by omega), show i * K.size + K.size + j - c.length = i * K.size + j by omega]
      exact h2 j u hj
/-- a list of the call's own -/
def OwnG (K : RowK α) (e : TypeId) (w : World) (base : Nat) (v : Value) (xs : List α) : Prop :=
  ∃ cells, w.ownsRow base e K.size v xs.length cells ∧ grows K w (fun b => b < w.heap.size ∧ v.ownBlock ≠ some b ∧ base ≤ b) cells xs
/-- the value reads as a list -/
def RdG (K : RowK α) (w : World) (ok : Nat → Prop) (v : Value) (xs : List α) : Prop :=
  ∃ A c, v = .slice A xs.length c ∧ xs.length ≤ c ∧ c ≤ 9223372036854775807 ∧
    (0 < xs.length → ∃ b off, A = some ⟨b, off, none⟩ ∧ ok b ∧ ∀ (i : Nat) (a : α), xs[i]? = some a → ∃ cs, K.rd w ok cs a ∧ ∀ (j : Nat) (u : Value), cs[j]? = some u → w.cell? ⟨b, off + i * K.size + j, none⟩ = some u)
theorem RdG.keep {w w' : World} {ok ok' : Nat → Prop} {v : Value} {xs : List α} (h : RdG K w ok v xs) (hk : ∀ b, ok b → ok' b ∧ w'.heap[b]? = w.heap[b]?) : RdG K w' ok' v xs := by
  obtain ⟨A, c, hv, hl, hc, hh⟩ := h
  refine ⟨A, c, hv, hl, hc, fun h0 => ?_⟩
  obtain ⟨b, off, hA, hb, hcell⟩ := hh h0
  refine ⟨b, off, hA, (hk b hb).1, fun i a ha => ?_⟩
  obtain ⟨cs, h1, h2⟩ := hcell i a ha
  exact ⟨cs, K.keep hk h1, fun j u hj => (World.cell?_of_block (w := w) (w' := w') (a := ⟨b, off + i * K.size + j, none⟩) (hk b hb).2).trans (h2 j u hj)⟩
theorem RdG.form {w : World} {ok : Nat → Prop} {v : Value} {xs : List α} (h : RdG K w ok v xs) : ∃ A c, v = .slice A xs.length c := by
  obtain ⟨A, c, hv, _⟩ := h
  exact ⟨A, c, hv⟩
theorem RdG.nil (w : World) (ok : Nat → Prop) : RdG K w ok (.slice none 0 0) [] := ⟨none, 0, rfl, by simp, by omega, fun h => absurd h (by simp)⟩
theorem RdG.at {w : World} {ok : Nat → Prop} {A : Option Addr} {n c : Nat} {xs : List α} (h : RdG K w ok (.slice A n c) xs) (h0 : 0 < xs.length) :
    ∃ b off, A = some ⟨b, off, none⟩ ∧ ok b ∧ ∀ (i : Nat) (a : α), xs[i]? = some a → ∃ cs, K.rd w ok cs a ∧ ∀ (j : Nat) (u : Value), cs[j]? = some u → w.cell? ⟨b, off + i * K.size + j, none⟩ = some u := by
  obtain ⟨A', c', hv, _, _, hh⟩ := h
  cases hv
  exact hh h0
theorem OwnG.rd {e : TypeId} {w : World} {base : Nat} {v : Value} {xs : List α} (h : OwnG K e w base v xs) : RdG K w (fun b => b < w.heap.size ∧ base ≤ b) v xs := by
  obtain ⟨cells, h1, h2⟩ := h
  obtain ⟨_, h3⟩ := id h1
  rcases h3 with ⟨rfl, h0⟩ | ⟨g, cap, cur, rfl, hg, hh, hle, hm, hs, ht⟩
  · exact ⟨none, 0, by rw [h0], by omega, by omega, fun hp => by omega⟩
  · refine ⟨some ⟨g, 0, none⟩, cap, rfl, hle, by simpa [maxLen] using hm, fun _ => ⟨g, 0, rfl, ⟨(h1.lt g rfl).2, hg⟩, fun i a hi => ?_⟩⟩
    obtain ⟨cs, e1, e2⟩ := h2.at hi
    refine ⟨cs, K.keep (fun b hb => ⟨⟨hb.1, hb.2.2⟩, rfl⟩) e1, fun j u hj => ?_⟩
    have := h1.cells rfl (i * K.size + j) u (e2 j u hj)
    rw [addr_add] at this
    rw [← this, Nat.add_assoc]
theorem OwnG.nil (e : TypeId) (w : World) (base : Nat) : OwnG K e w base (.slice none 0 0) [] := ⟨[], World.ownsRow_nil w base _ _, .nil⟩
theorem OwnG.form {e : TypeId} {w : World} {base : Nat} {v : Value} {xs : List α} (h : OwnG K e w base v xs) : ∃ A c, v = .slice A xs.length c := by
  obtain ⟨cells, h1, _⟩ := h
  exact own_form h1
theorem OwnG.lt {e : TypeId} {w : World} {base : Nat} {v : Value} {xs : List α} (h : OwnG K e w base v xs) : ∀ g, v.ownBlock = some g → base ≤ g ∧ g < w.heap.size := by
  obtain ⟨cells, h1, _⟩ := h
  exact fun g hg => h1.lt g hg
theorem OwnG.mono {e : TypeId} {w : World} {base base' : Nat} {v : Value} {xs : List α} (h : OwnG K e w base v xs) (hb : base' ≤ base) : OwnG K e w base' v xs := by
  obtain ⟨cells, h1, h2⟩ := h
  exact ⟨cells, h1.mono hb, h2.keep (fun b hk => ⟨⟨hk.1, hk.2.1, Nat.le_trans hb hk.2.2⟩, rfl⟩)⟩
/-- a world in which one block was turned that is neither the row nor behind 'base' -/
theorem OwnG.aside {e : TypeId} {w w' : World} {base : Nat} {row : Option Nat} {v : Value} {xs : List α} (h : OwnG K e w base v xs) (hg : w.grownBy w' row) (hk : ∀ k, row = some k → k < base) : OwnG K e w' base v xs := by
  obtain ⟨cells, h1, h2⟩ := h
  refine ⟨cells, h1.kept hg ?_, h2.keep (fun b hbk => ⟨⟨Nat.lt_of_lt_of_le hbk.1 hg.size, hbk.2⟩, hg.block b hbk.1 (fun e => by have := hk b e.symm; omega)⟩)⟩
  rcases h1.2 with ⟨rfl, _⟩ | ⟨g, cap, cur, rfl, hg', _⟩
  · exact .inl rfl
  · exact .inr (fun e => by have := hk g (by rw [← e]; rfl); omega)
theorem OwnG.kept {e : TypeId} {w w' : World} {base : Nat} {v : Value} {xs : List α} (h : OwnG K e w base v xs) (hb : Below w.heap.size w w') : OwnG K e w' base v xs := h.aside (grown_of_below (row := none) hb) (by simp)
/-- a block of another type is not the row -/
theorem OwnG.ne {e : TypeId} {w : World} {base : Nat} {v : Value} {xs : List α} (h : OwnG K e w base v xs) {b : Nat} {cs : Array Value} {t : TypeId} {fr : Nat × Nat} (hb : w.heap[b]? = some (.cells cs t fr)) (ht : t ≠ e) : some b ≠ v.ownBlock := by
  obtain ⟨cells, h1, _⟩ := h
  rcases h1.2 with ⟨rfl, h0⟩ | ⟨g, cap, cur, rfl, hg, hh, _⟩
  · simp [Value.ownBlock]
  · intro q
    simp [Value.ownBlock] at q
    subst q
    rw [hb] at hh
    cases hh
    exact ht rfl
/-- appended: one more -/
theorem OwnG.snoc {e : TypeId} {w w' : World} {base : Nat} {v v' : Value} {xs : List α} {a : α} {cells cs : List Value} (h2 : grows K w (fun b => b < w.heap.size ∧ v.ownBlock ≠ some b ∧ base ≤ b) cells xs)
    (hm : K.rd w (fun b => b < w.heap.size ∧ v.ownBlock ≠ some b ∧ base ≤ b) cs a) (hown : w'.ownsRow base e K.size v' (xs.length + 1) (cells ++ cs)) (hg : w.grownBy w' v.ownBlock)
    (hat : v'.ownBlock = v.ownBlock ∨ ∃ g, v'.ownBlock = some g ∧ w.heap.size ≤ g) : OwnG K e w' base v' (xs ++ [a]) := by
  have hk : ∀ b, (b < w.heap.size ∧ v.ownBlock ≠ some b ∧ base ≤ b) → (b < w'.heap.size ∧ v'.ownBlock ≠ some b ∧ base ≤ b) ∧ w'.heap[b]? = w.heap[b]? := by
    intro b ⟨hb, hne, hbs⟩
    refine ⟨⟨Nat.lt_of_lt_of_le hb hg.size, ?_, hbs⟩, hg.block b hb (fun e => hne e.symm)⟩
    rcases hat with e | ⟨g, e, hge⟩
    · rw [e]; exact hne
    · rw [e]; intro q; cases q; omega
  exact ⟨_, by rw [List.length_append]; exact hown, (h2.snoc hm).keep hk⟩
end



end Go.Proofs.YtenmkbpdkfhbjaaGreat
namespace Go.Proofs.YtenmkbpdkfhbjaaGreat
open Go Go.RowKit

def encValue (v : Sg.Value) : List Value := [.int .i64 v.kind, .string v.text, .int .i64 v.lo, .int .i64 v.hi]
theorem len_value (v : Sg.Value) : (encValue v).length = 4 := rfl
theorem one_value (v : Sg.Value) : ∀ u ∈ encValue v, u.oneCell' = true := by intro u hu; simp [encValue] at hu; rcases hu with rfl | rfl | rfl | rfl <;> rfl
def Sg.Value.fits (v : Sg.Value) : Prop := v.text.size ≤ maxLen
/-- signs: a code, two sizes, a mark, and values -/
def KSign : RowK Sg.Sign where
  size := 5
  rd w ok cs s := ∃ v, cs = [.string s.code, .int .i64 s.wide, .int .i64 s.high, .bool s.even, v] ∧ RdX w ok 4 encValue v s.values
  len := by rintro w ok cs s ⟨v, rfl, _⟩; rfl
  keep := by rintro w w' ok ok' cs s hk ⟨v, rfl, h⟩; exact ⟨v, rfl, h.keep hk⟩
def Sg.Sign.fits (s : Sg.Sign) : Prop := s.code.size ≤ maxLen ∧ ∀ v ∈ s.values, Sg.Value.fits v
/-- a sign list -/
structure RdSL (w : World) (B : Nat) (v : Value) (l : Sg.SList) : Prop where
  ex : ∃ u, v = .agg #[.int .i64 l.periods, u] ∧ RdG KSign w (· < B) u l.signs
  fs : ∀ s ∈ l.signs, Sg.Sign.fits s
theorem RdSL.keep {w w' : World} {B B' : Nat} {v : Value} {l : Sg.SList} (h : RdSL w B v l) (hB : B ≤ B') (hb : Below B w w') : RdSL w' B' v l := by
  obtain ⟨⟨u, rfl, h1⟩, h2⟩ := h
  exact ⟨⟨u, rfl, h1.keep fun b hlt => ⟨Nat.lt_of_lt_of_le hlt hB, hb.block b hlt⟩⟩, h2⟩
theorem RdSL.on {w w' : World} {v : Value} {l : Sg.SList} (h : RdSL w w.heap.size v l) (hb : Below w.heap.size w w') : RdSL w' w'.heap.size v l := h.keep hb.size hb
theorem info_Value : (Tryz.prog.info? 103).map (fun i => (i.zero, i.size, i.bytes)) = some (some (.agg #[.int .i64 0, .string ⟨#[]⟩, .int .i64 0, .int .i64 0]), 4, 40) := by kernel_rfl
theorem info_Sign : (Tryz.prog.info? 66).map (fun i => (i.zero, i.size, i.bytes)) = some (some (.agg #[.string ⟨#[]⟩, .int .i64 0, .int .i64 0, .bool false, .slice none 0 0]), 5, 64) := by kernel_rfl
/-- the cells of one value of a slice -/
theorem RdX.four {w : World} {ok : Nat → Prop} {A : Option Addr} {n c : Nat} {l : List Sg.Value} (h : RdX w ok 4 encValue (.slice A n c) l) (h0 : 0 < l.length) :
    ∃ b off, A = some ⟨b, off, none⟩ ∧ ok b ∧ ∀ i v, l[i]? = some v → w.cell? ⟨b, off + i * 4, none⟩ = some (.int .i64 v.kind) ∧ w.cell? ⟨b, off + i * 4 + 1, none⟩ = some (.string v.text) ∧ w.cell? ⟨b, off + i * 4 + 2, none⟩ = some (.int .i64 v.lo) ∧ w.cell? ⟨b, off + i * 4 + 3, none⟩ = some (.int .i64 v.hi) := by
  obtain ⟨A', c', hv, _, _, hh⟩ := h
  cases hv
  obtain ⟨b, off, rfl, hb, hcell⟩ := hh h0
  refine ⟨b, off, rfl, hb, fun i v hi => ⟨?_, hcell i v hi 1 _ rfl, hcell i v hi 2 _ rfl, hcell i v hi 3 _ rfl⟩⟩
  have := hcell i v hi 0 _ rfl
  simpa using this
/-- the cells of one sign of a list -/
theorem RdG.five {w : World} {ok : Nat → Prop} {A : Option Addr} {n c : Nat} {l : List Sg.Sign} (h : RdG KSign w ok (.slice A n c) l) (h0 : 0 < l.length) :
    ∃ b off, A = some ⟨b, off, none⟩ ∧ ok b ∧ ∀ i s, l[i]? = some s → ∃ u, RdX w ok 4 encValue u s.values ∧ w.cell? ⟨b, off + i * 5, none⟩ = some (.string s.code) ∧ w.cell? ⟨b, off + i * 5 + 1, none⟩ = some (.int .i64 s.wide) ∧ w.cell? ⟨b, off + i * 5 + 2, none⟩ = some (.int .i64 s.high) ∧
      w.cell? ⟨b, off + i * 5 + 3, none⟩ = some (.bool s.even) ∧ w.cell? ⟨b, off + i * 5 + 4, none⟩ = some u := by
  obtain ⟨b, off, rfl, hb, hcell⟩ := RdG.at h h0
  refine ⟨b, off, rfl, hb, fun i s hi => ?_⟩
  obtain ⟨cs, ⟨u, rfl, hu⟩, hc⟩ := hcell i s hi
  refine ⟨u, hu, ?_, hc 1 _ rfl, hc 2 _ rfl, hc 3 _ rfl, hc 4 _ rfl⟩
  have := hc 0 _ rfl
  simpa [KSign] using this
end Go.Proofs.YtenmkbpdkfhbjaaGreat
namespace Lx
open Go

theorem flat_len {α : Type} {f : α → List UInt8} : ∀ {l : List α}, (∀ a ∈ l, (f a).length ≤ 120) → (l.flatMap f).length ≤ l.length * 120
  | [], _ => by simp
  | a :: r, h => by
    have h1 := flat_len (l := r) fun b hb => h b (by simp [hb])
    have h2 := h a (by simp)
    simp only [List.flatMap_cons, List.length_append, List.length_cons]
    omega
end Lx
