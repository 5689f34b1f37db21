/- From the arguments as data to what the walks ask.; Sign lists that come in.; Sources and papers that come in. -/
import Derived.Test.YtenmkbpdkfhbjaaGreatRcLeaf
import Derived.Test.YtenmkbpdkfhbjaaGreatRows
import Derived.ProofKit
import Derived.OpenShut
import Derived.Deep.Slices
import Derived.Deep.Fields
import Derived.Lib.SmallJoins
import Derived.Test.YtenmkbpdkfhbjaaGreatRcFmtPlain
import Derived.Test.YtenmkbpdkfhbjaaGreatRcCdMem
import Derived.Test.YtenmkbpdkfhbjaaGreatRcR3Rdr
namespace Go.Proofs.YtenmkbpdkfhbjaaGreat
open Go.ChangeShapes Go.WideShapes Go.ChangeAt Go.RowKit Go.Joins Go.Deep

set_option maxRecDepth 100000
theorem list_of {α : Type} {Q : Nat → α → Prop} : ∀ (n : Nat), (∀ i, i < n → ∃ x, Q i x) → ∃ xs : List α, xs.length = n ∧ ∀ i x, xs[i]? = some x → Q i x
 | 0, _ => ⟨[], rfl, fun i x h => by simp at h⟩
 | n + 1, h => by
  obtain ⟨xs, hl, hx⟩ := list_of n (fun i hi => h i (by omega))
  obtain ⟨y, hy⟩ := h n (by omega)
  refine ⟨xs ++ [y], by simp [hl], fun i x hix => ?_⟩
  by_cases hi : i < xs.length
  ·rw [List.getElem?_append_left hi] at hix
   exact hx i x hix
  ·rw [List.getElem?_append_right (by omega)] at hix
   have : i - xs.length = 0 := by
    rcases Nat.eq_zero_or_pos (i - xs.length) with h0 | h0
    ·exact h0
    ·rw [List.getElem?_eq_none (by simp; omega)] at hix; cases hix
   rw [this] at hix
   simp at hix
   subst hix
   have : i = n := by omega
   subst this
   exact hy

theorem lt_of_cell {w : World} {a : Addr} {v : Value} (h : w.cell? a = some v) : a.block < w.heap.size := by
 rcases Nat.lt_or_ge a.block w.heap.size with h1 | h1
 ·exact h1
 ·simp [World.cell?, Array.getElem?_eq_none h1] at h

section
variable {H : Type} {enc : TypeId × Value → H} {w : World} {base : Nat} {spare : Nat → Bool} {held : Bool}
theorem open_rds {α : Type} {en : α → List Value} {size : Nat} {fits : α → Prop} {t e : TypeId} {fuel : Nat} {v : Value} {y : DataW H × List MemPlace} (ht : Tryz.prog.underlying t = some (.slice e)) (hC : Tryz.prog.cellsOf e = size) (hs : 0 < size) (hen : ∀ x, (en x).length = size)
  (row : ∀ (n : Nat) (cs : List Value) (d : DataW H) (p : List MemPlace), cs.length = size → DataW.trod enc Tryz.prog w base spare held n e cs = some (d, p) → ∃ x, cs = en x ∧ fits x)
  (h : DataW.trod enc Tryz.prog w base spare held fuel t [v] = some y) : ∃ xs : List α, RdS w w.heap.size size en v xs ∧ ∀ x ∈ xs, fits x := by
 rcases open_slice ht h with ⟨hcs, _⟩ | ⟨a, len, cap, m, n, D, Pl, hcs, hb, hl, hm, hmm, _, hx⟩
 ·injection hcs with hcs
  subst hcs
  exact ⟨[], ⟨none, 0, rfl, by simp, by omega, fun h => by simp at h⟩, fun x hx => by cases hx⟩
 ·injection hcs with hcs
  subst hcs
  have hlm : len ≤ m := by rw [hmm]; split <;> omega
  obtain ⟨xs, hxl, hxx⟩ := list_of (Q := fun i x => fits x ∧ ∀ j u, (en x)[j]? = some u → w.cell? (a.add (i * size + j)) = some u) len (fun i hi => by
   obtain ⟨cs', h1, h2⟩ := hx i (by omega)
   rw [hC] at h1
   obtain ⟨_, hcl, hat⟩ := World.cells?_some h1
   obtain ⟨x, rfl, hf⟩ := row n cs' _ _ hcl h2
   refine ⟨x, hf, fun j u hj => ?_⟩
   have hjl : j < size := by rw [← hen x]; exact (List.getElem?_eq_some_iff.1 hj).1
   rw [← Go.Deep.add_add, hat j hjl]
   exact hj)
  refine ⟨xs, ⟨some a, cap, by rw [hxl], by omega, by simpa [maxLen] using hm, fun h0 => ?_⟩, fun x hx => ?_⟩
  ·have h0' : 0 < xs.length := h0
   have hx0 := (hxx 0 xs[0] (List.getElem?_eq_getElem h0')).2 0 ((en xs[0])[0]'(by rw [hen]; omega)) (List.getElem?_eq_getElem _)
   obtain ⟨b, off, spot⟩ := a
   have hspot : spot = none := by simpa [Addr.add] using World.cell?_spot hx0
   subst hspot
   refine ⟨b, off, rfl, ?_, fun i x hix j u hj => ?_⟩
   ·have := lt_of_cell hx0
    simpa [Addr.add] using this
   ·have := (hxx i x hix).2 j u hj
    rw [Go.WideShapes.add_plain] at this
    rw [Nat.add_assoc]
    exact this
  ·obtain ⟨i, hi, rfl⟩ := List.mem_iff_getElem.1 hx
   exact (hxx i _ (List.getElem?_eq_getElem hi)).1

theorem fields_of {e : TypeId} {fs : Array Field} {n : Nat} {cs : List Value} {x : DataW H × List MemPlace} (he : Tryz.prog.underlying e = some (.struct fs)) (hone : oneCellFields Tryz.prog fs = true) (h : DataW.trod enc Tryz.prog w base spare held n e cs = some x) :
  ∃ (xs : List (DataW H × List MemPlace)) (m : Nat), xs.length = fs.size ∧ ∀ (i : Nat) (f : Field), fs[i]? = some f → DataW.trod enc Tryz.prog w base spare held m f.type ((cs.drop i).take 1) = xs[i]? := by
 obtain ⟨xs, m, _, _, _, hxl, hf⟩ := DataW.trod_struct he h
 refine ⟨xs, m, hxl, fun i f hi => ?_⟩
 obtain ⟨o, k⟩ := hone_of hone i f hi
 have := hf i f hi
 rwa [o, k] at this






end
end Go.Proofs.YtenmkbpdkfhbjaaGreat
namespace Go.Proofs.YtenmkbpdkfhbjaaGreat
open Go.ChangeShapes Go.WideShapes Go.ChangeAt Go.RowKit Go.Joins Go.Deep

set_option maxRecDepth 100000
section
variable {H : Type} {enc : TypeId × Value → H} {w : World} {base : Nat} {spare : Nat → Bool} {held : Bool}
theorem open_rdg {α : Type} {K : RowK α} {fits : α → Prop} {t e : TypeId} {fuel : Nat} {v : Value} {y : DataW H × List MemPlace} (ht : Tryz.prog.underlying t = some (.slice e)) (hC : Tryz.prog.cellsOf e = K.size) (hs : 0 < K.size)
  (row : ∀ (n : Nat) (cs : List Value) (d : DataW H) (p : List MemPlace), cs.length = K.size → DataW.trod enc Tryz.prog w base spare held n e cs = some (d, p) → ∃ x, K.rd w (· < w.heap.size) cs x ∧ fits x)
  (h : DataW.trod enc Tryz.prog w base spare held fuel t [v] = some y) : ∃ xs : List α, RdG K w (· < w.heap.size) v xs ∧ ∀ x ∈ xs, fits x := by
 rcases open_slice ht h with ⟨hcs, _⟩ | ⟨a, len, cap, m, n, D, Pl, hcs, hb, hl, hm, hmm, _, hx⟩
 ·injection hcs with hcs
  subst hcs
  exact ⟨[], ⟨none, 0, rfl, by simp, by omega, fun h => by simp at h⟩, fun x hx => by cases hx⟩
 ·injection hcs with hcs
  subst hcs
  have hlm : len ≤ m := by rw [hmm]; split <;> omega
  obtain ⟨xs, hxl, hxx⟩ := list_of (Q := fun i x => fits x ∧ ∃ cs, K.rd w (· < w.heap.size) cs x ∧ ∀ (j : Nat) (u : Value), cs[j]? = some u → w.cell? (a.add (i * K.size + j)) = some u) len (fun i hi => by
   obtain ⟨cs', h1, h2⟩ := hx i (by omega)
   rw [hC] at h1
   obtain ⟨_, hcl, hat⟩ := World.cells?_some h1
   obtain ⟨x, hr, hf⟩ := row n cs' _ _ hcl h2
   refine ⟨x, hf, cs', hr, fun j u hj => ?_⟩
   have hjl : j < K.size := by rw [← hcl]; exact (List.getElem?_eq_some_iff.1 hj).1
   rw [← Go.Deep.add_add, hat j hjl]
   exact hj)
  refine ⟨xs, ⟨some a, cap, by rw [hxl], by omega, by simpa [maxLen] using hm, fun h0 => ?_⟩, fun x hx => ?_⟩
  ·have h0' : 0 < xs.length := h0
   obtain ⟨_, cs0, hr0, hc0⟩ := hxx 0 xs[0] (List.getElem?_eq_getElem h0')
   have hl0 := K.len hr0
   have hx0 := hc0 0 (cs0[0]'(by omega)) (List.getElem?_eq_getElem _)
   obtain ⟨b, off, spot⟩ := a
   have hspot : spot = none := by simpa [Addr.add] using World.cell?_spot hx0
   subst hspot
   refine ⟨b, off, rfl, ?_, fun i x hix => ?_⟩
   ·have := lt_of_cell hx0
    simpa [Addr.add] using this
   ·obtain ⟨_, cs, hr, hc⟩ := hxx i x hix
    refine ⟨cs, hr, fun j u hj => ?_⟩
    have := hc j u hj
    rw [Go.WideShapes.add_plain] at this
    rw [Nat.add_assoc]
    exact this
  ·obtain ⟨i, hi, rfl⟩ := List.mem_iff_getElem.1 hx
   exact (hxx i _ (List.getElem?_eq_getElem hi)).1
theorem row_value {n : Nat} {cs : List Value} {d : DataW H} {p : List MemPlace} (hcl : cs.length = 4) (h : DataW.trod enc Tryz.prog w base spare held n 103 cs = some (d, p)) : ∃ x : Sg.Value, cs = encValue x ∧ Sg.Value.fits x := by
 obtain ⟨xs, m, hxl, hf⟩ := fields_of Tryz.underlying103 (by kernel_rfl) h
 match cs, hcl, xs, hxl with
 | [a0, a1, a2, a3], _, [y0, y1, y2, y3], _ =>
  have g0 := hf 0 _ rfl
  have g1 := hf 1 _ rfl
  have g2 := hf 2 _ rfl
  have g3 := hf 3 _ rfl
  obtain ⟨b0, e0, _, _⟩ := DataW.trod_int Tryz.underlying3 (show DataW.trod enc Tryz.prog w base spare held m 3 [a0] = some y0 from g0)
  cases e0
  obtain ⟨b1, e1, _, z1⟩ := DataW.trod_string Tryz.underlying9 (show DataW.trod enc Tryz.prog w base spare held m 9 [a1] = some y1 from g1)
  cases e1
  obtain ⟨b2, e2, _, _⟩ := DataW.trod_int Tryz.underlying3 (show DataW.trod enc Tryz.prog w base spare held m 3 [a2] = some y2 from g2)
  cases e2
  obtain ⟨b3, e3, _, _⟩ := DataW.trod_int Tryz.underlying3 (show DataW.trod enc Tryz.prog w base spare held m 3 [a3] = some y3 from g3)
  cases e3
  exact ⟨⟨b0, b1, b2, b3⟩, rfl, z1⟩
theorem row_sign {n : Nat} {cs : List Value} {d : DataW H} {p : List MemPlace} (hcl : cs.length = 5) (h : DataW.trod enc Tryz.prog w base spare held n 66 cs = some (d, p)) : ∃ x : Sg.Sign, KSign.rd w (· < w.heap.size) cs x ∧ Sg.Sign.fits x := by
 obtain ⟨xs, m, hxl, hf⟩ := fields_of Tryz.underlying66 (by kernel_rfl) h
 match cs, hcl, xs, hxl with
 | [a0, a1, a2, a3, a4], _, [y0, y1, y2, y3, y4], _ =>
  have g0 := hf 0 _ rfl
  have g1 := hf 1 _ rfl
  have g2 := hf 2 _ rfl
  have g3 := hf 3 _ rfl
  have g4 := hf 4 _ rfl
  obtain ⟨b0, e0, _, z0⟩ := DataW.trod_string Tryz.underlying9 (show DataW.trod enc Tryz.prog w base spare held m 9 [a0] = some y0 from g0)
  cases e0
  obtain ⟨b1, e1, _, _⟩ := DataW.trod_int Tryz.underlying3 (show DataW.trod enc Tryz.prog w base spare held m 3 [a1] = some y1 from g1)
  cases e1
  obtain ⟨b2, e2, _, _⟩ := DataW.trod_int Tryz.underlying3 (show DataW.trod enc Tryz.prog w base spare held m 3 [a2] = some y2 from g2)
  cases e2
  obtain ⟨b3, e3, _⟩ := DataW.trod_bool Tryz.underlying4 (show DataW.trod enc Tryz.prog w base spare held m 4 [a3] = some y3 from g3)
  cases e3
  obtain ⟨vs, hv, hfv⟩ := open_rds (en := encValue) (fits := Sg.Value.fits) Tryz.underlying64 (by kernel_rfl) (by decide) (fun _ => rfl) (fun n cs d p hl h => row_value hl h) (show DataW.trod enc Tryz.prog w base spare held m 64 [a4] = some y4 from g4)
  exact ⟨⟨b0, b1, b2, b3, vs⟩, ⟨a4, rfl, RdX.of hv⟩, z0, hfv⟩
end
end Go.Proofs.YtenmkbpdkfhbjaaGreat
namespace Go.Proofs.YtenmkbpdkfhbjaaGreat
open Go.ChangeShapes Go.WideShapes Go.ChangeAt Go.RowKit Go.Joins Go.Deep

set_option maxRecDepth 100000
section
variable {H : Type} {enc : TypeId × Value → H} {w : World} {base : Nat} {spare : Nat → Bool} {held : Bool}
theorem row_slist {n : Nat} {c0 c1 : Value} {y : DataW H × List MemPlace} (h : DataW.trod enc Tryz.prog w base spare held n 24 [c0, c1] = some y) : ∃ (p : Int) (x : Sg.SList), c0 = .int .i64 p ∧ RdSL w w.heap.size (.agg #[.int .i64 p, c1]) x := by
 obtain ⟨xs, m, hxl, hf⟩ := fields_of Tryz.underlying24 (by kernel_rfl) h
 match xs, hxl with
 | [y0, y1], _ =>
  have g0 := hf 0 _ rfl
  have g1 := hf 1 _ rfl
  obtain ⟨a, e0, _, _⟩ := DataW.trod_int Tryz.underlying3 (show DataW.trod enc Tryz.prog w base spare held m 3 [c0] = some y0 from g0)
  cases e0
  obtain ⟨ss, hs, hfs⟩ := open_rdg (K := KSign) (fits := Sg.Sign.fits) Tryz.underlying22 (by kernel_rfl) (by decide) (fun n cs d p hl h => row_sign hl h) (show DataW.trod enc Tryz.prog w base spare held m 22 [c1] = some y1 from g1)
  exact ⟨a, ⟨a, ss⟩, rfl, ⟨⟨c1, rfl, hs⟩, hfs⟩⟩
theorem open_source {r : Reach} {b0 : Nat} {v : Value} {d : DataW H} {p : List MemPlace} (hv : Value.okWide Tryz.prog w r b0 41 v) (h : DataW.Trod enc Tryz.prog w base spare held 41 v d p) :
  ∃ (l : Sg.SList) (q kind : Int) (us : Value) (t : ByteArray), v = .agg #[.int .i64 q, us, .int .i64 kind, .string t] ∧ RdSL w w.heap.size (.agg #[.int .i64 q, us]) l ∧ t.size ≤ maxLen := by
 obtain ⟨cs, rfl, hsz⟩ := okWide_struct Tryz.underlying41 hv
 obtain ⟨c0, c1, c2, c3, rfl⟩ := array4 (hsz.trans (by kernel_rfl))
 obtain ⟨fuel, hf⟩ := h
 obtain ⟨xs, n, _, _, _, hxl, hff⟩ := DataW.trod_struct Tryz.underlying41 hf
 match xs, hxl with
 | [y0, y1, y2], _ =>
  have g0 := hff 0 _ rfl
  have g1 := hff 1 _ rfl
  have g2 := hff 2 _ rfl
  obtain ⟨q, x, rfl, hx⟩ := row_slist (y := y0) (n := n) (c0 := c0) (c1 := c1) (enc := enc) (base := base) (spare := spare) (held := held) g0
  obtain ⟨k, e1, _, _⟩ := DataW.trod_int Tryz.underlying3 (show DataW.trod enc Tryz.prog w base spare held n 3 [c2] = some y1 from g1)
  cases e1
  obtain ⟨s, e2, _, hs⟩ := DataW.trod_string Tryz.underlying9 (show DataW.trod enc Tryz.prog w base spare held n 9 [c3] = some y2 from g2)
  cases e2
  exact ⟨x, q, k, c1, s, rfl, hx, hs⟩
end
end Go.Proofs.YtenmkbpdkfhbjaaGreat
