/- CodeOneWay: a string that is read is what is written of the text: the walk.; From the arguments as data to what the walks ask.; Sign lists that come in.; Sources and papers that come in. -/
import Derived.Test.YtenmkbpdkfhbjaaGreatQaCdBeside
import Derived.Test.YtenmkbpdkfhbjaaGreatQaCWorks
import Derived.Test.YtenmkbpdkfhbjaaGreatQaCdRdP
import Derived.Test.YtenmkbpdkfhbjaaGreatQaRegion
import Derived.Test.YtenmkbpdkfhbjaaGreatRows
import Derived.ProofKit
import Derived.OpenShut
import Derived.Deep.Slices
import Derived.Deep.Fields
import Derived.Lib.SmallJoins
import Derived.Test.YtenmkbpdkfhbjaaGreatQaSgRead
import Derived.Test.YtenmkbpdkfhbjaaGreatQaTxEnd
namespace Go.Proofs.YtenmkbpdkfhbjaaGreat
open Go Go.RowKit

theorem far_small {l : Sg.SList} {t : ByteArray} (h : Cd.farB l t = false) : Sg.Small l ∧ t.size ≤ 3000 := by
  unfold Cd.farB at h
  rw [Bool.or_eq_false_iff] at h
  have h1 := h.1
  unfold Sg.largeV at h1
  rw [Bool.or_eq_false_iff] at h1
  refine ⟨(Sg.big_small h1.1).1, ?_⟩
  have := of_decide_eq_false h.2
  omega
/-- a list as a value -/
theorem rdsl_shape {w : World} {B : Nat} {v : Value} {l : Sg.SList} (h : RdSL w B v l) : ∃ A c, v = .agg #[.int .i64 l.periods, .slice A l.signs.length c] := by
  obtain ⟨⟨u, rfl, hg⟩, -⟩ := h
  obtain ⟨A, c, rfl⟩ := hg.form
  exact ⟨A, c, rfl⟩
set_option maxRecDepth 100000 in
set_option maxHeartbeats 16000000 in
theorem CodeOneWay_any (p kind : Int) (us : Value) (l : Sg.SList) (t : ByteArray) (w : World) (hr : RdSL w w.heap.size (.agg #[.int .i64 p, us]) l) (ht : t.size ≤ maxLen) :
    Calls Tryz.prog 5 #[.agg #[.int .i64 p, us, .int .i64 kind, .string t]] w (RetBB true w) := by
  have HL := Lib.hid hr
  obtain ⟨A0, c0, hsh⟩ := rdsl_shape hr
  injection hsh with hsh
  injection hsh with hsh
  injection hsh with hp hsh
  injection hp with _ hp
  injection hsh with hsh _
  subst hp hsh
  have HWK : Hid (∀ W, Calls Tryz.prog 12 #[] W (RetBB true W)) := Lib.hid works3_any
  obtain ⟨Z, hZ⟩ : ∃ Z, Z = w.heap.size := ⟨_, rfl⟩
  have HZ := Lib.hid hZ
  obtain ⟨W1, hW1⟩ : ∃ W1, W1 = w.alloc (.cells #[.int .i64 l.periods, .slice A0 l.signs.length c0, .int .i64 kind, .string t] 41) := ⟨_, rfl⟩
  have hbl : Below w.heap.size w W1 := by rw [hW1]; exact (Below.refl _ _).alloc (Nat.le_refl _) _
  have b1 : W1.heap[Z]? = some (.cells #[.int .i64 l.periods, .slice A0 l.signs.length c0, .int .i64 kind, .string t] 41 (0, 0)) := by rw [hW1, hZ]; exact heap_alloc_new _ _
  have hz1 : Z < W1.heap.size := lt_of_some b1
  have HLX : Hid (∀ W, Below W1.heap.size W1 W → RdSL W W.heap.size (.agg #[.int .i64 l.periods, .slice A0 l.signs.length c0]) l) := Lib.hid fun W q => by
    have hb := hbl.trans (q.mono hbl.size)
    exact HL.out.keep hb.size hb
  have HBW : Hid (∀ W, Below W1.heap.size W1 W → Below w.heap.size w W) := Lib.hid fun W q => hbl.trans (q.mono hbl.size)
  have HX : Hid (∀ W, Below W1.heap.size W1 W → W.cell? ⟨Z, 0, none⟩ = some (.int .i64 l.periods) ∧ W.cell? ⟨Z, 1, none⟩ = some (.slice A0 l.signs.length c0) ∧ W.cell? ⟨Z, 2, none⟩ = some (.int .i64 kind) ∧ W.cell? ⟨Z, 3, none⟩ = some (.string t)) := Lib.hid fun W q => box4_cells ((q.block Z hz1).trans b1)
  obtain ⟨bf, hbf⟩ : ∃ bf, bf = Cd.farB l t := ⟨_, rfl⟩
  have HFAR : Hid (Calls Tryz.prog 18 #[.agg #[.int .i64 l.periods, .slice A0 l.signs.length c0, .int .i64 kind, .string t]] W1 (RetBB bf W1)) := Lib.hid (hbf ▸ law3far_any l.periods kind _ l t W1 (HLX.out W1 (Below.refl _ _)))
  have HBF := Lib.hid hbf
  have HW1 := Lib.hid hW1
  obtain ⟨x0, x1, x2, x3⟩ := HX.out W1 (Below.refl _ _)
  clear hZ hW1 hbl b1 hbf hr
  go_enter Tryz.func5, Tryz.ntmps5
  go_upto_region 1 with fail
  rw [← HZ.out, ← HW1.out]
  go_wp2_with fail
  refine HFAR.out.mono ?_
  rintro e w2 ⟨rfl, hb2⟩
  have HB2 := Lib.hid hb2
  clear hb2 x0 x1 x2 x3 HFAR
  cases bf
  case true =>
    go_wp2_with fail
    refine (HWK.out w2).mono ?_
    rintro e w3 ⟨rfl, hb3⟩
    have HB3 := Lib.hid (HB2.out.trans (hb3.mono HB2.out.size))
    clear hb3
    go_wp2_with fail
    go_ret
    exact ⟨rfl, HBW.out w3 HB3.out⟩
  obtain ⟨hsm, ht3⟩ := far_small HBF.out.symm
  have HCP := Lib.hid (r1Copy_any _ l w2 (HLX.out w2 HB2.out) hsm)
  obtain ⟨x0, x1, x2, x3⟩ := HX.out w2 HB2.out
  clear hsm
  go_wp2_with fail
  refine HCP.out.mono ?_
  rintro e w3 ⟨v, rfl, hr3, hb3⟩
  obtain ⟨A3, c3, rfl⟩ := rdsl_shape hr3
  have hb23 := HB2.out.trans (hb3.mono HB2.out.size)
  have HB3 := Lib.hid hb23
  have HR3 := Lib.hid hr3
  obtain ⟨x0', x1', x2', x3'⟩ := HX.out w3 hb23
  clear hr3 hb3 hb23 HCP x0 x1 x2 x3
  go_upto_region 4 with fail
  obtain ⟨Y, hY⟩ : ∃ Y, Y = w3.heap.size := ⟨_, rfl⟩
  obtain ⟨W4, hW4⟩ : ∃ W4, W4 = w3.alloc (.cells #[.int .i64 l.periods, .slice A3 l.signs.length c3] 24) := ⟨_, rfl⟩
  rw [← hW4, ← hY]
  have hb4 : Below Y w3 W4 := by rw [hW4, hY]; exact (Below.refl _ _).alloc (Nat.le_refl _) _
  have c4 : W4.heap[Y]? = some (.cells #[.int .i64 l.periods, .slice A3 l.signs.length c3] 24 (0, 0)) := by rw [hW4, hY]; exact heap_alloc_new _ _
  have hy4 : Y < W4.heap.size := lt_of_some c4
  have hy1 : W1.heap.size ≤ Y := by rw [hY]; exact HB3.out.size
  have HBY : Hid (∀ W, Below W4.heap.size W4 W → Below W1.heap.size W1 W ∧ W.cell? ⟨Y, 0, none⟩ = some (.int .i64 l.periods) ∧ W.cell? ⟨Y, 1, none⟩ = some (.slice A3 l.signs.length c3) ∧ RdSL W W.heap.size (.agg #[.int .i64 l.periods, .slice A3 l.signs.length c3]) l) := Lib.hid fun W q => by
    have h1 := HB3.out.trans ((hb4.trans (q.mono (by omega))).mono hy1)
    have h2 := box2_cells ((q.block Y hy4).trans c4)
    have h3 := hb4.trans (q.mono (by omega))
    refine ⟨h1, h2.1, h2.2, HR3.out.keep ?_ ?_⟩
    · exact h3.size
    · rw [← hY]; exact h3
  clear hW4 hY hb4 c4 x0' x1' x2' x3'
  obtain ⟨hbx, y0, y1, hry⟩ := HBY.out W4 (Below.refl _ _)
  obtain ⟨x0, x1, x2, x3⟩ := HX.out W4 hbx
  have hrd := Read_any kind l _ t ht W4 hry
  obtain ⟨q, hq⟩ : ∃ q, q = Cd.readV kind l t.data.toList := ⟨_, rfl⟩
  rw [← hq] at hrd
  obtain ⟨ns, pt, er⟩ := q
  have HQ := Lib.hid hq
  have HRD : Hid (Calls Tryz.prog 19 #[.int .i64 kind, .agg #[.int .i64 l.periods, .slice A3 l.signs.length c3], .string t] W4 (fun e w' => ∃ A c, e = .returned (.tuple #[.agg #[.slice A ns.length c], .int .i64 pt, .int .i64 er]) ∧ Below W4.heap.size W4 w' ∧ RdN w' w'.heap.size (.slice A ns.length c) ns)) := Lib.hid (hrd.mono fun e w' ⟨A, c, q1, q2, q3⟩ => ⟨A, c, q1, q2, rds_of_own len_node q3⟩)
  clear hrd hq hry hbx
  go_wp2_with fail
  refine HRD.out.mono ?_
  rintro e w5 ⟨A5, c5, rfl, hb5, hn5⟩
  have HB5 := Lib.hid hb5
  have HN5 := Lib.hid hn5
  obtain ⟨hbx, y0', y1', -⟩ := HBY.out w5 hb5
  obtain ⟨x0', x1', x2', x3'⟩ := HX.out w5 hbx
  clear hb5 hn5 HRD x0 x1 x2 x3 y0 y1 hbx
  go_upto_region 5 with fail
  obtain ⟨T, hT⟩ : ∃ T, T = w5.heap.size := ⟨_, rfl⟩
  obtain ⟨W6, hW6⟩ : ∃ W6, W6 = w5.alloc (.cells #[.slice A5 ns.length c5] 27) := ⟨_, rfl⟩
  rw [← hW6, ← hT]
  have hb6 : Below T w5 W6 := by rw [hW6, hT]; exact (Below.refl _ _).alloc (Nat.le_refl _) _
  have c6 : W6.heap[T]? = some (.cells #[.slice A5 ns.length c5] 27 (0, 0)) := by rw [hW6, hT]; exact heap_alloc_new _ _
  have ht6 : T < W6.heap.size := lt_of_some c6
  have ht4 : W4.heap.size ≤ T := by rw [hT]; exact HB5.out.size
  have HBT : Hid (∀ W, Below W6.heap.size W6 W → Below W4.heap.size W4 W ∧ W.cell? ⟨T, 0, none⟩ = some (.slice A5 ns.length c5) ∧ RdN W W.heap.size (.slice A5 ns.length c5) ns) := Lib.hid fun W q => by
    have h3 := hb6.trans (q.mono (by omega))
    refine ⟨HB5.out.trans (h3.mono ht4), bx_cell ((q.block T ht6).trans c6), (HN5.out.below ?_).more ?_⟩
    · rw [← hT]; exact h3
    · exact h3.size
  clear hW6 hT hb6 c6 x0' x1' x2' x3' y0' y1'
  obtain ⟨hby, u0, hnr⟩ := HBT.out W6 (Below.refl _ _)
  obtain ⟨hbx, y0, y1, hry⟩ := HBY.out W6 hby
  obtain ⟨x0, x1, x2, x3⟩ := HX.out W6 hbx
  by_cases ke : er = 0
  case neg =>
    have t0 : (er == 0) = false := by simp [ke]
    have t0' : (er != 0) = true := by simp [ke]
    have herr := Cd.read_err (kind := kind) (l := l) (s := t.data.toList) (by rw [← HQ.out]; exact ke)
    rw [← HQ.out] at herr
    obtain ⟨e1, e2, e3⟩ := herr
    simp only at e1 e2 e3
    have e4 : pt ≤ (t.size : Int) := by
      have : (t.data.toList.length : Int) = (t.size : Int) := by simp
      omega
    subst e1
    have d1 : decide ((0 : Int) ≤ pt) = true := decide_eq_true e2
    have d2 : decide (pt ≤ (t.size : Int)) = true := decide_eq_true e4
    have HB6 := Lib.hid hbx
    clear ke hnr hry hby hbx e2 e3 e4
    simp only [List.length_nil] at u0
    go_wp2_with fail
    refine (HWK.out W6).mono ?_
    rintro e w7 ⟨rfl, hb7⟩
    have HB7 := Lib.hid (HBW.out w7 (HB6.out.trans (hb7.mono HB6.out.size)))
    clear hb7
    go_wp2_with fail
    go_ret
    exact ⟨rfl, HB7.out⟩
  subst ke
  have hway := Cd.read_way HQ.out.symm
  have hlk := Cd.read_lacks HQ.out.symm
  obtain ⟨rfl, hchk, hwv, hkd⟩ := hway
  have hq2 : Cd.writeQ kind l ns = (t.data.toList, 0) := by
    unfold Cd.writeQ
    have e0 : Cd.lacksE kind l ns = 0 := by
      unfold Cd.lacksE
      rw [if_neg (by omega), hchk]
    rw [e0, if_neg (by simp), if_neg (by simp [hlk]), hwv]
  have HWR : Hid (Calls Tryz.prog 22 #[.int .i64 kind, .agg #[.int .i64 l.periods, .slice A3 l.signs.length c3], .agg #[.slice A5 ns.length c5]] W6 (fun e w' => e = .returned (.tuple #[.string t, .int .i64 0]) ∧ Below W6.heap.size W6 w')) := Lib.hid (by
    have := Write_any kind l ns _ W6 A5 c5 hry hnr
    rw [hq2] at this
    exact this)
  have HCK : Hid (∀ W, Below W6.heap.size W6 W → Calls Tryz.prog 23 #[.agg #[.int .i64 l.periods, .slice A0 l.signs.length c0], .agg #[.slice A5 ns.length c5]] W (RetE 0 W)) := Lib.hid fun W q => by
    obtain ⟨q1, -, q3⟩ := HBT.out W q
    have := r2Check_any l ns _ W A5 c5 (HLX.out W (HBY.out W q1).1) q3
    rwa [hchk] at this
  clear hwv hlk hkd hq2 hchk hnr hry hby hbx
  go_wp2_with fail
  refine HWR.out.mono ?_
  rintro e w7 ⟨rfl, hb7⟩
  have HB7 := Lib.hid hb7
  obtain ⟨hby, u0', -⟩ := HBT.out w7 hb7
  obtain ⟨hbx, -⟩ := HBY.out w7 hby
  obtain ⟨x0', x1', x2', x3'⟩ := HX.out w7 hbx
  clear hb7 hby hbx x0 x1 x2 x3 y0 y1 u0 HWR
  go_wp2_with fail
  refine (HCK.out w7 HB7.out).mono ?_
  rintro e w8 ⟨rfl, hb8⟩
  have hb68 := HB7.out.trans (hb8.mono HB7.out.size)
  have HB8 := Lib.hid hb68
  obtain ⟨hby, u0, -⟩ := HBT.out w8 hb68
  obtain ⟨hbx, -⟩ := HBY.out w8 hby
  obtain ⟨x0, x1, x2, x3⟩ := HX.out w8 hbx
  have HBX := Lib.hid hbx
  clear hb8 hb68 hby hbx x0' x1' x2' x3' u0'
  go_wp2_with fail
  refine (HWK.out w8).mono ?_
  rintro e w9 ⟨rfl, hb9⟩
  have HB9 := Lib.hid (HBW.out w9 (HBX.out.trans (hb9.mono HBX.out.size)))
  clear hb9
  go_wp2_with fail
  go_ret
  exact ⟨rfl, HB9.out⟩
end Go.Proofs.YtenmkbpdkfhbjaaGreat
namespace Go.Proofs.YtenmkbpdkfhbjaaGreat
open Go.ChangeShapes Go.WideShapes Go.ChangeAt Go.RowKit Go.Joins Go.Deep

set_option maxRecDepth 100000
theorem list_of {α : Type} {Q : Nat → α → Prop} : ∀ (n : Nat), (∀ i, i < n → ∃ x, Q i x) → ∃ xs : List α, xs.length = n ∧ ∀ i x, xs[i]? = some x → Q i x
  | 0, _ => ⟨[], rfl, fun i x h => by simp at h⟩
  | n + 1, h => by
    obtain ⟨xs, hl, hx⟩ := list_of n (fun i hi => h i (by omega))
    obtain ⟨y, hy⟩ := h n (by omega)
    refine ⟨xs ++ [y], by simp [hl], fun i x hix => ?_⟩
    by_cases hi : i < xs.length
    · rw [List.getElem?_append_left hi] at hix
      exact hx i x hix
    · rw [List.getElem?_append_right (by omega)] at hix
      have : i - xs.length = 0 := by
        rcases Nat.eq_zero_or_pos (i - xs.length) with h0 | h0
        · exact h0
        · rw [List.getElem?_eq_none (by simp; omega)] at hix; cases hix
      rw [this] at hix
      simp at hix
      subst hix
      have : i = n := by omega
      subst this
      exact hy

theorem lt_of_cell {w : World} {a : Addr} {v : Value} (h : w.cell? a = some v) : a.block < w.heap.size := by
  rcases Nat.lt_or_ge a.block w.heap.size with h1 | h1
  · exact h1
  · simp [World.cell?, Array.getElem?_eq_none h1] at h

section
variable {H : Type} {enc : TypeId × Value → H} {w : World} {base : Nat} {spare : Nat → Bool} {held : Bool}
/-- A slice of rows: every row, read by 'row', is some 'en x'. -/
theorem open_rds {α : Type} {en : α → List Value} {size : Nat} {fits : α → Prop} {t e : TypeId} {fuel : Nat} {v : Value} {y : DataW H × List MemPlace} (ht : Tryz.prog.underlying t = some (.slice e)) (hC : Tryz.prog.cellsOf e = size) (hs : 0 < size) (hen : ∀ x, (en x).length = size)
    (row : ∀ (n : Nat) (cs : List Value) (d : DataW H) (p : List MemPlace), cs.length = size → DataW.trod enc Tryz.prog w base spare held n e cs = some (d, p) → ∃ x, cs = en x ∧ fits x)
    (h : DataW.trod enc Tryz.prog w base spare held fuel t [v] = some y) : ∃ xs : List α, RdS w w.heap.size size en v xs ∧ ∀ x ∈ xs, fits x := by
  rcases open_slice ht h with ⟨hcs, _⟩ | ⟨a, len, cap, m, n, D, Pl, hcs, hb, hl, hm, hmm, _, hx⟩
  · injection hcs with hcs
    subst hcs
    exact ⟨[], ⟨none, 0, rfl, by simp, by omega, fun h => by simp at h⟩, fun x hx => by cases hx⟩
  · injection hcs with hcs
    subst hcs
    have hlm : len ≤ m := by rw [hmm]; split <;> omega
    obtain ⟨xs, hxl, hxx⟩ := list_of (Q := fun i x => fits x ∧ ∀ j u, (en x)[j]? = some u → w.cell? (a.add (i * size + j)) = some u) len (fun i hi => by
      obtain ⟨cs', h1, h2⟩ := hx i (by omega)
      rw [hC] at h1
      obtain ⟨_, hcl, hat⟩ := World.cells?_some h1
      obtain ⟨x, rfl, hf⟩ := row n cs' _ _ hcl h2
      refine ⟨x, hf, fun j u hj => ?_⟩
      have hjl : j < size := by rw [← hen x]; exact (List.getElem?_eq_some_iff.1 hj).1
      rw [← Go.Deep.add_add, hat j hjl]
      exact hj)
    refine ⟨xs, ⟨some a, cap, by rw [hxl], by omega, by simpa [maxLen] using hm, fun h0 => ?_⟩, fun x hx => ?_⟩
    · have h0' : 0 < xs.length := h0
      have hx0 := (hxx 0 xs[0] (List.getElem?_eq_getElem h0')).2 0 ((en xs[0])[0]'(by rw [hen]; omega)) (List.getElem?_eq_getElem _)
      obtain ⟨b, off, spot⟩ := a
      have hspot : spot = none := by simpa [Addr.add] using World.cell?_spot hx0
      subst hspot
      refine ⟨b, off, rfl, ?_, fun i x hix j u hj => ?_⟩
      · have := lt_of_cell hx0
        simpa [Addr.add] using this
      · have := (hxx i x hix).2 j u hj
        rw [Go.WideShapes.add_plain] at this
        rw [Nat.add_assoc]
        exact this
    · obtain ⟨i, hi, rfl⟩ := List.mem_iff_getElem.1 hx
      exact (hxx i _ (List.getElem?_eq_getElem hi)).1

theorem fields_of {e : TypeId} {fs : Array Field} {n : Nat} {cs : List Value} {x : DataW H × List MemPlace} (he : Tryz.prog.underlying e = some (.struct fs)) (hone : oneCellFields Tryz.prog fs = true) (h : DataW.trod enc Tryz.prog w base spare held n e cs = some x) :
    ∃ (xs : List (DataW H × List MemPlace)) (m : Nat), xs.length = fs.size ∧ ∀ (i : Nat) (f : Field), fs[i]? = some f → DataW.trod enc Tryz.prog w base spare held m f.type ((cs.drop i).take 1) = xs[i]? := by
  obtain ⟨xs, m, _, _, _, hxl, hf⟩ := DataW.trod_struct he h
  refine ⟨xs, m, hxl, fun i f hi => ?_⟩
  obtain ⟨o, k⟩ := hone_of hone i f hi
  have := hf i f hi
  rwa [o, k] at this






end
end Go.Proofs.YtenmkbpdkfhbjaaGreat
namespace Go.Proofs.YtenmkbpdkfhbjaaGreat
open Go.ChangeShapes Go.WideShapes Go.ChangeAt Go.RowKit Go.Joins Go.Deep

set_option maxRecDepth 100000
section
variable {H : Type} {enc : TypeId × Value → H} {w : World} {base : Nat} {spare : Nat → Bool} {held : Bool}
/-- A slice of rows of whatever make. -/
theorem open_rdg {α : Type} {K : RowK α} {fits : α → Prop} {t e : TypeId} {fuel : Nat} {v : Value} {y : DataW H × List MemPlace} (ht : Tryz.prog.underlying t = some (.slice e)) (hC : Tryz.prog.cellsOf e = K.size) (hs : 0 < K.size)
    (row : ∀ (n : Nat) (cs : List Value) (d : DataW H) (p : List MemPlace), cs.length = K.size → DataW.trod enc Tryz.prog w base spare held n e cs = some (d, p) → ∃ x, K.rd w (· < w.heap.size) cs x ∧ fits x)
    (h : DataW.trod enc Tryz.prog w base spare held fuel t [v] = some y) : ∃ xs : List α, RdG K w (· < w.heap.size) v xs ∧ ∀ x ∈ xs, fits x := by
  rcases open_slice ht h with ⟨hcs, _⟩ | ⟨a, len, cap, m, n, D, Pl, hcs, hb, hl, hm, hmm, _, hx⟩
  · injection hcs with hcs
    subst hcs
    exact ⟨[], ⟨none, 0, rfl, by simp, by omega, fun h => by simp at h⟩, fun x hx => by cases hx⟩
  · injection hcs with hcs
    subst hcs
    have hlm : len ≤ m := by rw [hmm]; split <;> omega
    obtain ⟨xs, hxl, hxx⟩ := list_of (Q := fun i x => fits x ∧ ∃ cs, K.rd w (· < w.heap.size) cs x ∧ ∀ (j : Nat) (u : Value), cs[j]? = some u → w.cell? (a.add (i * K.size + j)) = some u) len (fun i hi => by
      obtain ⟨cs', h1, h2⟩ := hx i (by omega)
      rw [hC] at h1
      obtain ⟨_, hcl, hat⟩ := World.cells?_some h1
      obtain ⟨x, hr, hf⟩ := row n cs' _ _ hcl h2
      refine ⟨x, hf, cs', hr, fun j u hj => ?_⟩
      have hjl : j < K.size := by rw [← hcl]; exact (List.getElem?_eq_some_iff.1 hj).1
      rw [← Go.Deep.add_add, hat j hjl]
      exact hj)
    refine ⟨xs, ⟨some a, cap, by rw [hxl], by omega, by simpa [maxLen] using hm, fun h0 => ?_⟩, fun x hx => ?_⟩
    · have h0' : 0 < xs.length := h0
      obtain ⟨_, cs0, hr0, hc0⟩ := hxx 0 xs[0] (List.getElem?_eq_getElem h0')
      have hl0 := K.len hr0
      have hx0 := hc0 0 (cs0[0]'(by omega)) (List.getElem?_eq_getElem _)
      obtain ⟨b, off, spot⟩ := a
      have hspot : spot = none := by simpa [Addr.add] using World.cell?_spot hx0
      subst hspot
      refine ⟨b, off, rfl, ?_, fun i x hix => ?_⟩
      · have := lt_of_cell hx0
        simpa [Addr.add] using this
      · obtain ⟨_, cs, hr, hc⟩ := hxx i x hix
        refine ⟨cs, hr, fun j u hj => ?_⟩
        have := hc j u hj
        rw [Go.WideShapes.add_plain] at this
        rw [Nat.add_assoc]
        exact this
    · obtain ⟨i, hi, rfl⟩ := List.mem_iff_getElem.1 hx
      exact (hxx i _ (List.getElem?_eq_getElem hi)).1
theorem row_value {n : Nat} {cs : List Value} {d : DataW H} {p : List MemPlace} (hcl : cs.length = 4) (h : DataW.trod enc Tryz.prog w base spare held n 103 cs = some (d, p)) : ∃ x : Sg.Value, cs = encValue x ∧ Sg.Value.fits x := by
  obtain ⟨xs, m, hxl, hf⟩ := fields_of Tryz.underlying103 (by kernel_rfl) h
  match cs, hcl, xs, hxl with
  | [a0, a1, a2, a3], _, [y0, y1, y2, y3], _ =>
    have g0 := hf 0 _ rfl
    have g1 := hf 1 _ rfl
    have g2 := hf 2 _ rfl
    have g3 := hf 3 _ rfl
    obtain ⟨b0, e0, _, _⟩ := DataW.trod_int Tryz.underlying3 (show DataW.trod enc Tryz.prog w base spare held m 3 [a0] = some y0 from g0)
    cases e0
    obtain ⟨b1, e1, _, z1⟩ := DataW.trod_string Tryz.underlying9 (show DataW.trod enc Tryz.prog w base spare held m 9 [a1] = some y1 from g1)
    cases e1
    obtain ⟨b2, e2, _, _⟩ := DataW.trod_int Tryz.underlying3 (show DataW.trod enc Tryz.prog w base spare held m 3 [a2] = some y2 from g2)
    cases e2
    obtain ⟨b3, e3, _, _⟩ := DataW.trod_int Tryz.underlying3 (show DataW.trod enc Tryz.prog w base spare held m 3 [a3] = some y3 from g3)
    cases e3
    exact ⟨⟨b0, b1, b2, b3⟩, rfl, z1⟩
theorem row_sign {n : Nat} {cs : List Value} {d : DataW H} {p : List MemPlace} (hcl : cs.length = 5) (h : DataW.trod enc Tryz.prog w base spare held n 66 cs = some (d, p)) : ∃ x : Sg.Sign, KSign.rd w (· < w.heap.size) cs x ∧ Sg.Sign.fits x := by
  obtain ⟨xs, m, hxl, hf⟩ := fields_of Tryz.underlying66 (by kernel_rfl) h
  match cs, hcl, xs, hxl with
  | [a0, a1, a2, a3, a4], _, [y0, y1, y2, y3, y4], _ =>
    have g0 := hf 0 _ rfl
    have g1 := hf 1 _ rfl
    have g2 := hf 2 _ rfl
    have g3 := hf 3 _ rfl
    have g4 := hf 4 _ rfl
    obtain ⟨b0, e0, _, z0⟩ := DataW.trod_string Tryz.underlying9 (show DataW.trod enc Tryz.prog w base spare held m 9 [a0] = some y0 from g0)
    cases e0
    obtain ⟨b1, e1, _, _⟩ := DataW.trod_int Tryz.underlying3 (show DataW.trod enc Tryz.prog w base spare held m 3 [a1] = some y1 from g1)
    cases e1
    obtain ⟨b2, e2, _, _⟩ := DataW.trod_int Tryz.underlying3 (show DataW.trod enc Tryz.prog w base spare held m 3 [a2] = some y2 from g2)
    cases e2
    obtain ⟨b3, e3, _⟩ := DataW.trod_bool Tryz.underlying4 (show DataW.trod enc Tryz.prog w base spare held m 4 [a3] = some y3 from g3)
    cases e3
    obtain ⟨vs, hv, hfv⟩ := open_rds (en := encValue) (fits := Sg.Value.fits) Tryz.underlying64 (by kernel_rfl) (by decide) (fun _ => rfl) (fun n cs d p hl h => row_value hl h) (show DataW.trod enc Tryz.prog w base spare held m 64 [a4] = some y4 from g4)
    exact ⟨⟨b0, b1, b2, b3, vs⟩, ⟨a4, rfl, RdX.of hv⟩, z0, hfv⟩
end
end Go.Proofs.YtenmkbpdkfhbjaaGreat
namespace Go.Proofs.YtenmkbpdkfhbjaaGreat
open Go.ChangeShapes Go.WideShapes Go.ChangeAt Go.RowKit Go.Joins Go.Deep

set_option maxRecDepth 100000
section
variable {H : Type} {enc : TypeId × Value → H} {w : World} {base : Nat} {spare : Nat → Bool} {held : Bool}
theorem row_slist {n : Nat} {c0 c1 : Value} {y : DataW H × List MemPlace} (h : DataW.trod enc Tryz.prog w base spare held n 24 [c0, c1] = some y) : ∃ (p : Int) (x : Sg.SList), c0 = .int .i64 p ∧ RdSL w w.heap.size (.agg #[.int .i64 p, c1]) x := by
  obtain ⟨xs, m, hxl, hf⟩ := fields_of Tryz.underlying24 (by kernel_rfl) h
  match xs, hxl with
  | [y0, y1], _ =>
    have g0 := hf 0 _ rfl
    have g1 := hf 1 _ rfl
    obtain ⟨a, e0, _, _⟩ := DataW.trod_int Tryz.underlying3 (show DataW.trod enc Tryz.prog w base spare held m 3 [c0] = some y0 from g0)
    cases e0
    obtain ⟨ss, hs, hfs⟩ := open_rdg (K := KSign) (fits := Sg.Sign.fits) Tryz.underlying22 (by kernel_rfl) (by decide) (fun n cs d p hl h => row_sign hl h) (show DataW.trod enc Tryz.prog w base spare held m 22 [c1] = some y1 from g1)
    exact ⟨a, ⟨a, ss⟩, rfl, ⟨⟨c1, rfl, hs⟩, hfs⟩⟩
/-- a list, a code and a text -/
theorem open_source {r : Reach} {b0 : Nat} {v : Value} {d : DataW H} {p : List MemPlace} (hv : Value.okWide Tryz.prog w r b0 41 v) (h : DataW.Trod enc Tryz.prog w base spare held 41 v d p) :
    ∃ (l : Sg.SList) (q kind : Int) (us : Value) (t : ByteArray), v = .agg #[.int .i64 q, us, .int .i64 kind, .string t] ∧ RdSL w w.heap.size (.agg #[.int .i64 q, us]) l ∧ t.size ≤ maxLen := by
  obtain ⟨cs, rfl, hsz⟩ := okWide_struct Tryz.underlying41 hv
  obtain ⟨c0, c1, c2, c3, rfl⟩ := array4 (hsz.trans (by kernel_rfl))
  obtain ⟨fuel, hf⟩ := h
  obtain ⟨xs, n, _, _, _, hxl, hff⟩ := DataW.trod_struct Tryz.underlying41 hf
  match xs, hxl with
  | [y0, y1, y2], _ =>
    have g0 := hff 0 _ rfl
    have g1 := hff 1 _ rfl
    have g2 := hff 2 _ rfl
    obtain ⟨q, x, rfl, hx⟩ := row_slist (y := y0) (n := n) (c0 := c0) (c1 := c1) (enc := enc) (base := base) (spare := spare) (held := held) g0
    obtain ⟨k, e1, _, _⟩ := DataW.trod_int Tryz.underlying3 (show DataW.trod enc Tryz.prog w base spare held n 3 [c2] = some y1 from g1)
    cases e1
    obtain ⟨s, e2, _, hs⟩ := DataW.trod_string Tryz.underlying9 (show DataW.trod enc Tryz.prog w base spare held n 9 [c3] = some y2 from g2)
    cases e2
    exact ⟨x, q, k, c1, s, rfl, hx, hs⟩
end
end Go.Proofs.YtenmkbpdkfhbjaaGreat
