/- DERIVED: THE SHELF's CONTRACTS AT THIS DUMP, IN PLAIN WORDS (tools/lay-plain.mjs out of 'TryzShelf.lean', which tools/lay-shelf.mjs wrote): THE SAME DECLARATIONS UNDER THE SAME NAMES: 'import', 'namespace', 'open', 'def', 'theorem' AND NOTHING ELSE: no command of the shelf's: FOR A HAND-IN. Each laying: the table of numbers ('.._ren') and one theorem, a field a fact of the dump's own or the .. -/
import Derived.Shelf.Small.Wraps
import Derived.Shelf.LaysM
import Derived.Shelf.Strconv.Itoa3
import Derived.Shelf.Slices.Turned
import Derived.Ground.Names2Prog
import Derived.Test.YtkmimjngmfdpmaaGreatDoorProg
import Derived.Test.YtkmimjngmfdpmaaGreatDoorMpTextPlain
import Derived.Lib.Strings
import Derived.Lib.IndexBytes
import Derived.Deep.DeepCutAuto
import Derived.Deep.Onto
import Derived.Test.YtkmimjngmfdpmaaGreatDoorMpSgParsePlain
import Derived.Lib.ItoaNum
import Derived.Lib.Small
import Derived.Lib.OthersKept
namespace Go.Proofs
open Go.Shelf
def Tryz.lays122_ren : Go.Shelf.Ren := ⟨fun | 122 => 149 | 215 => 176 | n => n, fun | 3 => 3 | 4 => 4 | n => n, fun | n => n⟩
theorem Tryz.lays122 : Go.Proofs.Lays.n122 Tryz.prog Tryz.lays122_ren := {
  mixed := by kernel_rfl
  f122 := Tryz.func149.trans (congrArg some (by kernel_rfl))
  f215 := Tryz.func176.trans (congrArg some (by kernel_rfl))
  t3 := Tryz.underlying3
  a3 := Tryz.isAgg3
  z3 := Tryz.sizeOf3
  v3 := Tryz.zeroValue3
  t4 := Tryz.underlying4
  a4 := Tryz.isAgg4
  z4 := Tryz.sizeOf4
  v4 := Tryz.zeroValue4 }
open Go.RowKit in
/-- cmp.Compare at int: "Compare returns -1 if x is less than y, 0 if x equals y, +1 if x is greater than y.": IT RETURNS 'Lib.compareInt x y'; the world is as it was. (LAID: no walk: one application.) -/
theorem Tryz.cmp_Compare_int (x y : Int) (w : World) :
    Calls Tryz.prog 149 #[.int .i64 x, .int .i64 y] w fun e w' => e = .returned (.int .i64 (Lib.compareInt x y)) ∧ w' = w := Any.cmp_Compare_int Tryz.lays122 x y w
def Tryz.lays108_ren : Go.Shelf.Ren := ⟨fun | 108 => 52 | n => n, fun | 28 => 42 | 3 => 3 | 0 => 0 | 4 => 4 | n => n, fun | n => n⟩
theorem Tryz.lays108 : Go.Proofs.Lays.n108 Tryz.prog Tryz.lays108_ren := {
  mixed := by kernel_rfl
  f108 := Tryz.func52.trans (congrArg some (by kernel_rfl))
  t0 := Tryz.underlying0
  a0 := Tryz.isAgg0
  z0 := Tryz.sizeOf0
  v0 := Tryz.zeroValue0
  t3 := Tryz.underlying3
  a3 := Tryz.isAgg3
  z3 := Tryz.sizeOf3
  v3 := Tryz.zeroValue3
  t4 := Tryz.underlying4
  a4 := Tryz.isAgg4
  z4 := Tryz.sizeOf4
  v4 := Tryz.zeroValue4
  t28 := Tryz.underlying42
  a28 := Tryz.isAgg42
  z28 := Tryz.sizeOf42
  v28 := Tryz.zeroValue42 }
open Go.Lib in
/-- slices.Index at []int: "Index returns the index of the first occurrence of v in s, or -1 if not present.": IT RETURNS 'Lib.idxOf (the elements) v'; the world is as it was. 'zs': what the cells behind the slice's address hold (its spare capacity too, if you have it); 'zs.take n': its elements. (LAID: no walk: one application.) -/
theorem Tryz.slices_Index_int (b off n c : Nat) (zs : List Int) (x : Int) (w : World) (hz : n ≤ zs.length) (hbig : n ≤ 9223372036854775807) (hc : ∀ j, j < zs.length → w.cell? ⟨b, off + j, none⟩ = some (.int .i64 (zs.getD j 0))) :
    Calls Tryz.prog 52 #[.slice (some ⟨b, off, none⟩) n c, .int .i64 x] w fun e w' => e = .returned (.int .i64 (Lib.idxOf (zs.take n) x)) ∧ w' = w := Any.slices_Index_int Tryz.lays108 b off n c zs x w hz hbig hc
open Go.Lib in
/-- The same at a slice of length 0, a nil one too: no cell is known, none is asked for. (LAID: no walk: one application.) -/
theorem Tryz.slices_Index_int_empty (a : Option Addr) (c : Nat) (x : Int) (w : World) :
    Calls Tryz.prog 52 #[.slice a 0 c, .int .i64 x] w fun e w' => e = .returned (.int .i64 (Lib.idxOf [] x)) ∧ w' = w := Any.slices_Index_int_empty Tryz.lays108 a c x w
end Go.Proofs
namespace Go.Proofs.YtkmimjngmfdpmaaGreatDoor
open Go.RowKit



end Go.Proofs.YtkmimjngmfdpmaaGreatDoor
namespace Go.Proofs.YtkmimjngmfdpmaaGreatDoor
open Go.RowKit
def Lx.known : Lx.Lexicon := ⟨[⟨⟨#[110, 102, 114]⟩, 1, ⟨#[103, 111, 111, 100]⟩, 2⟩, ⟨⟨#[110]⟩, 2, ⟨#[]⟩, 1⟩], [⟨1, ⟨#[116]⟩, ⟨#[102, 101, 109]⟩, 1⟩], [⟨⟨#[102]⟩, ⟨#[104, 105, 115]⟩, 1⟩, ⟨⟨#[114]⟩, ⟨#[116, 111]⟩, 0⟩]⟩

theorem rds_block {α : Type} {en : α → List Value} {size : Nat} {w : World} {g c : Nat} {cs : Array Value} {t : TypeId} {fr : Nat × Nat} {B : Nat} {xs : List α} (hu : ∀ x, (en x).length = size) (hh : w.heap[g]? = some (.cells cs t fr)) (hc : cs.toList = xs.flatMap en) (hB : g < B) (hl : xs.length ≤ c) (hm : c ≤ 9223372036854775807) :
    RdS w B size en (.slice (some ⟨g, 0, none⟩) xs.length c) xs := by
  refine ⟨some ⟨g, 0, none⟩, c, rfl, hl, hm, fun _ => ⟨g, 0, rfl, hB, fun i x hx j u hj => ?_⟩⟩
  have h1 := flat_at hu xs i x hx j u hj
  rw [← hc] at h1
  simp only [World.cell?, hh, Option.isSome_none, Bool.false_eq_true, if_false]
  rw [← h1]
  simp [Nat.zero_add]



end Go.Proofs.YtkmimjngmfdpmaaGreatDoor
namespace Lx
structure Match where
  entry : Int
  ending : Int
  clitics : List Int
  long : Nat
/-- entry and ending of a form are there -/
structure Fits (x : Lexicon) (f : Form) : Prop where
  ent : 0 ≤ f.entry ∧ f.entry < x.entries.length
  fin : f.ending < 0 ∨ (0 ≤ f.ending ∧ f.ending < x.endings.length)
theorem Valid.fits {x : Lexicon} {f : Form} (h : Valid x f) : Fits x f := ⟨h.ent, h.fin.imp (fun q => by omega) id⟩
end Lx
namespace Go.Proofs.YtkmimjngmfdpmaaGreatDoor
open Go.RowKit

/-- As RdS, the block within 'ok'. -/
def RdX {α : Type} (w : World) (ok : Nat → Prop) (size : Nat) (enc : α → List Value) (v : Value) (xs : List α) : Prop :=
  ∃ A c, v = .slice A xs.length c ∧ xs.length ≤ c ∧ c ≤ 9223372036854775807 ∧
    (0 < xs.length → ∃ b off, A = some ⟨b, off, none⟩ ∧ ok b ∧ ∀ i x, xs[i]? = some x → ∀ j u, (enc x)[j]? = some u → w.cell? ⟨b, off + i * size + j, none⟩ = some u)
theorem RdX.of {α : Type} {w : World} {B size : Nat} {enc : α → List Value} {v : Value} {xs : List α} (h : RdS w B size enc v xs) : RdX w (· < B) size enc v xs := h
theorem RdX.to {α : Type} {w : World} {B size : Nat} {enc : α → List Value} {v : Value} {xs : List α} {ok : Nat → Prop} (h : RdX w ok size enc v xs) (hB : ∀ b, ok b → b < B) : RdS w B size enc v xs := by
  obtain ⟨A, c, hv, hl, hc, hh⟩ := h
  refine ⟨A, c, hv, hl, hc, fun h0 => ?_⟩
  obtain ⟨b, off, hA, hb, hcell⟩ := hh h0
  exact ⟨b, off, hA, hB b hb, hcell⟩
theorem RdX.keep {α : Type} {w w' : World} {size : Nat} {enc : α → List Value} {v : Value} {xs : List α} {ok ok' : Nat → Prop} (h : RdX w ok size enc v xs) (hk : ∀ b, ok b → ok' b ∧ w'.heap[b]? = w.heap[b]?) : RdX w' ok' size enc v xs := by
  obtain ⟨A, c, hv, hl, hc, hh⟩ := h
  refine ⟨A, c, hv, hl, hc, fun h0 => ?_⟩
  obtain ⟨b, off, hA, hb, hcell⟩ := hh h0
  exact ⟨b, off, hA, (hk b hb).1, fun i x hx j u hu => (World.cell?_of_block (a := ⟨b, off + i * size + j, none⟩) (hk b hb).2).trans (hcell i x hx j u hu)⟩





end Go.Proofs.YtkmimjngmfdpmaaGreatDoor
namespace Go.Proofs.YtkmimjngmfdpmaaGreatDoor
open Go.RowKit






end Go.Proofs.YtkmimjngmfdpmaaGreatDoor
namespace Go.Proofs.YtkmimjngmfdpmaaGreatDoor
open Go.RowKit



end Go.Proofs.YtkmimjngmfdpmaaGreatDoor
namespace Go.Proofs.YtkmimjngmfdpmaaGreatDoor
open Go.RowKit




theorem grown_of_below {w w' : World} {row : Option Nat} (h : Below w.heap.size w w') : w.grownBy w' row := ⟨h.os, h.tape, h.output, h.size, fun k hk _ => h.block k hk⟩


theorem rdx_of_own {α : Type} {enc : α → List Value} {size : Nat} {w : World} {base : Nat} {e : TypeId} {v : Value} {xs : List α} (hu : ∀ x, (enc x).length = size) (h : w.ownsRow base e size v xs.length (xs.flatMap enc)) : RdX w (fun b => base ≤ b ∧ b < w.heap.size) size enc v xs := by
  obtain ⟨_, h2⟩ := id h
  rcases h2 with ⟨rfl, h0⟩ | ⟨g, cap, cur, rfl, hg, hh, hle, hm, hs, ht⟩
  · exact ⟨none, 0, by rw [h0], by omega, by omega, fun hp => by omega⟩
  · refine ⟨some ⟨g, 0, none⟩, cap, rfl, hle, by simpa [maxLen] using hm, fun _ => ⟨g, 0, rfl, ⟨hg, (h.lt g rfl).2⟩, fun i x hx j u hj => ?_⟩⟩
    have := h.cells rfl (i * size + j) u (flat_at hu xs i x hx j u hj)
    rw [addr_add] at this
    rw [← this, Nat.add_assoc]




end Go.Proofs.YtkmimjngmfdpmaaGreatDoor
namespace Lx
end Lx
namespace Go.Proofs.YtkmimjngmfdpmaaGreatDoor
open Go.RowKit







end Go.Proofs.YtkmimjngmfdpmaaGreatDoor
namespace Sg
open Go
def perBad (l : SList) (p : Int) : Prop := p < 1 ∨ l.periods < p
instance (l : SList) (p : Int) : Decidable (perBad l p) := by unfold perBad; infer_instance
def signBad (l : SList) (s : Int) : Prop := s < 0 ∨ (l.signs.length : Int) ≤ s
instance (l : SList) (s : Int) : Decidable (signBad l s) := by unfold signBad; infer_instance
/-- the error of Values -/
def valuesE (l : SList) (sign period : Int) : Int := if checkV l ≠ 0 then checkV l else if signBad l sign then 1 else if perBad l period then 13 else 0
def nameAt (i : Int) (t : ByteArray) : ByteArray × Int := if i < 0 then (⟨#[]⟩, 3) else if i = 0 then (t, 0) else (t ++ bs (Lib.itoa (i + 1)), 0)
def placeOf : List Int → Int → Int
  | [], _ => -1
  | a :: l, x => if a = x then 0 else if placeOf l x < 0 then -1 else placeOf l x + 1
def nameV (l : SList) (sign : Int) (t : ByteArray) (period : Int) : ByteArray × Int := if valuesE l sign period ≠ 0 then (⟨#[]⟩, valuesE l sign period) else nameAt (placeOf (bearV l.signs 1 t period) sign) t
end Sg
namespace Lx
end Lx
namespace Go.Proofs.YtkmimjngmfdpmaaGreatDoor
open Go.RowKit

/-- The value reads as a list of matches, its blocks within 'ok'. -/
def RdMs (w : World) (ok : Nat → Prop) (v : Value) (ms : List Lx.Match) : Prop :=
  ∃ A c, v = .slice A ms.length c ∧ ms.length ≤ c ∧ c ≤ 9223372036854775807 ∧
    (0 < ms.length → ∃ b off, A = some ⟨b, off, none⟩ ∧ ok b ∧ ∀ i m, ms[i]? = some m →
      w.cell? ⟨b, off + i * 4, none⟩ = some (.int .i64 m.entry) ∧ w.cell? ⟨b, off + i * 4 + 1, none⟩ = some (.int .i64 m.ending) ∧
      (∃ s, w.cell? ⟨b, off + i * 4 + 2, none⟩ = some s ∧ RdX w ok 1 encInt s m.clitics) ∧ w.cell? ⟨b, off + i * 4 + 3, none⟩ = some (.int .i64 m.long))
theorem RdMs.keep {w w' : World} {v : Value} {ms : List Lx.Match} {ok ok' : Nat → Prop} (h : RdMs w ok v ms) (hk : ∀ b, ok b → ok' b ∧ w'.heap[b]? = w.heap[b]?) : RdMs w' ok' v ms := by
  obtain ⟨A, c, hv, hl, hc, hh⟩ := h
  refine ⟨A, c, hv, hl, hc, fun h0 => ?_⟩
  obtain ⟨b, off, hA, hb, hcell⟩ := hh h0
  refine ⟨b, off, hA, (hk b hb).1, fun i m hm => ?_⟩
  obtain ⟨h1, h2, ⟨s, h3, h3'⟩, h4⟩ := hcell i m hm
  have e := fun (o : Nat) => World.cell?_of_block (w := w) (w' := w') (a := ⟨b, o, none⟩) (hk b hb).2
  exact ⟨(e _).trans h1, (e _).trans h2, ⟨s, (e _).trans h3, h3'.keep hk⟩, (e _).trans h4⟩

theorem RdMs.form {w : World} {ok : Nat → Prop} {v : Value} {ms : List Lx.Match} (h : RdMs w ok v ms) : ∃ A c, v = .slice A ms.length c := by
  obtain ⟨A, c, hv, _⟩ := h
  exact ⟨A, c, hv⟩

/-- The values read as these lists. -/
inductive RdT (w : World) (ok : Nat → Prop) : List Value → List (List Lx.Match) → Prop
  | nil : RdT w ok [] []
  | cons {v : Value} {ms : List Lx.Match} {vs : List Value} {ls : List (List Lx.Match)} (h : RdMs w ok v ms) (r : RdT w ok vs ls) : RdT w ok (v :: vs) (ms :: ls)
theorem RdT.keep {w w' : World} {ok ok' : Nat → Prop} (hk : ∀ b, ok b → ok' b ∧ w'.heap[b]? = w.heap[b]?) {vs : List Value} {ls : List (List Lx.Match)} (h : RdT w ok vs ls) : RdT w' ok' vs ls := by
  induction h with
  | nil => exact .nil
  | cons h _ ih => exact .cons (h.keep hk) ih
theorem RdT.snoc {w : World} {ok : Nat → Prop} {v : Value} {ms : List Lx.Match} (hv : RdMs w ok v ms) {vs : List Value} {ls : List (List Lx.Match)} (h : RdT w ok vs ls) : RdT w ok (vs ++ [v]) (ls ++ [ms]) := by
  induction h with
  | nil => exact .cons hv .nil
  | cons h _ ih => exact .cons h ih
theorem RdT.at {w : World} {ok : Nat → Prop} {vs : List Value} {ls : List (List Lx.Match)} (h : RdT w ok vs ls) : ∀ {i : Nat} {ms : List Lx.Match}, ls[i]? = some ms → ∃ v, vs[i]? = some v ∧ RdMs w ok v ms := by
  induction h with
  | nil => intro i ms h; simp at h
  | @cons v ms vs ls h _ ih =>
    intro i ms' h'
    cases i with
    | zero => simp at h'; subst h'; exact ⟨v, by simp, h⟩
    | succ i => simp at h'; obtain ⟨u, h1, h2⟩ := ih h'; exact ⟨u, by simpa using h1, h2⟩








end Go.Proofs.YtkmimjngmfdpmaaGreatDoor
namespace Go.Proofs.YtkmimjngmfdpmaaGreatDoor
open Go.RowKit



theorem eval_tmp {t : Array Value} {k : Nat} {v : Value} (h : t[k]? = some v) : (⟨t, []⟩ : Act).eval (.tmp k) = v := by
  simp [Act.eval, Array.getD_eq_getD_getElem?, h]



end Go.Proofs.YtkmimjngmfdpmaaGreatDoor
