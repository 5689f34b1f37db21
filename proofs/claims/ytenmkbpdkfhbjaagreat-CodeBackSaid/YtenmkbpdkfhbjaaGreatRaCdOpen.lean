/- CodeLacks: Lacks returns what the document specifies: the walk.; From the arguments as data to what the walks ask.; Sign lists that come in.; Sources and papers that come in. -/
import Derived.Test.YtenmkbpdkfhbjaaGreatRaSgInts
import Derived.Test.YtenmkbpdkfhbjaaGreatRaLawCdOneWay
import Derived.Test.YtenmkbpdkfhbjaaGreatRaRegion
import Derived.Test.YtenmkbpdkfhbjaaGreatRows
import Derived.ProofKit
import Derived.OpenShut
import Derived.Deep.Slices
import Derived.Deep.Fields
import Derived.Lib.SmallJoins
import Derived.Test.YtenmkbpdkfhbjaaGreatRaFmtPlain
import Derived.Test.YtenmkbpdkfhbjaaGreatRaTxEnd
namespace Go.Proofs.YtenmkbpdkfhbjaaGreat
open Go Go.RowKit

theorem bigB_small {l : Sg.SList} {ns : List Tx.Node} (h : Cd.bigB l ns = false) : Sg.Small l ∧ ns.length ≤ 210 := by
  unfold Cd.bigB at h
  rw [Bool.or_eq_false_iff] at h
  have h1 := h.1
  unfold Sg.largeV at h1
  rw [Bool.or_eq_false_iff] at h1
  refine ⟨(Sg.big_small h1.1).1, ?_⟩
  have := of_decide_eq_false h.2
  omega
set_option maxRecDepth 100000 in
set_option maxHeartbeats 16000000 in
theorem CodeLacks_any (p : Int) (us : Value) (A : Option Addr) (c : Nat) (l : Sg.SList) (ns : List Tx.Node) (kind : Int) (w : World) (hr : RdSL w w.heap.size (.agg #[.int .i64 p, us]) l) (hn : RdN w w.heap.size (.slice A ns.length c) ns) :
    Calls Tryz.prog 3 #[.agg #[.int .i64 p, us, .slice A ns.length c], .int .i64 kind] w (RetBB true w) := by
  have HL := Lib.hid hr
  have HN := Lib.hid hn
  obtain ⟨A0, c0, hsh⟩ := rdsl_shape hr
  injection hsh with hsh
  injection hsh with hsh
  injection hsh with hp hsh
  injection hp with _ hp
  injection hsh with hsh _
  subst hp hsh
  have HWK : Hid (∀ W, Calls Tryz.prog 12 #[] W (RetBB true W)) := Lib.hid works3_any
  obtain ⟨Z, hZ⟩ : ∃ Z, Z = w.heap.size := ⟨_, rfl⟩
  have HZ := Lib.hid hZ
  obtain ⟨W1, hW1⟩ : ∃ W1, W1 = w.alloc (.cells #[.int .i64 l.periods, .slice A0 l.signs.length c0, .slice A ns.length c] 29) := ⟨_, rfl⟩
  have hbl : Below w.heap.size w W1 := by rw [hW1]; exact (Below.refl _ _).alloc (Nat.le_refl _) _
  have b1 : W1.heap[Z]? = some (.cells #[.int .i64 l.periods, .slice A0 l.signs.length c0, .slice A ns.length c] 29 (0, 0)) := by rw [hW1, hZ]; exact heap_alloc_new _ _
  have hz1 : Z < W1.heap.size := lt_of_some b1
  have HLX : Hid (∀ W, Below W1.heap.size W1 W → RdSL W W.heap.size (.agg #[.int .i64 l.periods, .slice A0 l.signs.length c0]) l ∧ RdN W W.heap.size (.slice A ns.length c) ns) := Lib.hid fun W q => by
    have hb := hbl.trans (q.mono hbl.size)
    exact ⟨HL.out.keep hb.size hb, (HN.out.below hb).more hb.size⟩
  have HBW : Hid (∀ W, Below W1.heap.size W1 W → Below w.heap.size w W) := Lib.hid fun W q => hbl.trans (q.mono hbl.size)
  have HX : Hid (∀ W, Below W1.heap.size W1 W → W.cell? ⟨Z, 0, none⟩ = some (.int .i64 l.periods) ∧ W.cell? ⟨Z, 1, none⟩ = some (.slice A0 l.signs.length c0) ∧ W.cell? ⟨Z, 2, none⟩ = some (.slice A ns.length c)) := Lib.hid fun W q => box3_cells ((q.block Z hz1).trans b1)
  have HFIN : Hid (∀ W W', Below W1.heap.size W1 W → Below W.heap.size W W' → RetBB true w (.returned (.bool true)) W') := Lib.hid fun W W' q1 q2 => ⟨rfl, HBW.out W' (q1.trans (q2.mono q1.size))⟩
  obtain ⟨bf, hbf⟩ : ∃ bf, bf = Cd.bigB l ns := ⟨_, rfl⟩
  have HFAR : Hid (Calls Tryz.prog 11 #[.agg #[.int .i64 l.periods, .slice A0 l.signs.length c0, .slice A ns.length c]] W1 (RetBB bf W1)) := Lib.hid (hbf ▸ law2Big_any l.periods _ A c l ns W1 (HLX.out W1 (Below.refl _ _)).1)
  have HBF := Lib.hid hbf
  have HW1 := Lib.hid hW1
  obtain ⟨x0, x1, x2⟩ := HX.out W1 (Below.refl _ _)
  clear hZ hW1 hbl b1 hbf hr hn
  go_enter Tryz.func3, Tryz.ntmps3
  go_upto_region 1 with fail
  rw [← HZ.out, ← HW1.out]
  go_wp2_with fail
  refine HFAR.out.mono ?_
  rintro e w2 ⟨rfl, hb2⟩
  have HB2 := Lib.hid hb2
  clear hb2 x0 x1 x2 HFAR
  cases bf
  case true =>
    go_wp2_with fail
    refine (HWK.out w2).mono ?_
    rintro e w3 ⟨rfl, hb3⟩
    have HB3 := Lib.hid hb3
    clear hb3
    go_wp2_with fail
    go_ret
    exact HFIN.out w2 w3 HB2.out HB3.out
  obtain ⟨hsm, hn210⟩ := bigB_small HBF.out.symm
  obtain ⟨ls, hls⟩ : ∃ ls, ls = (Cd.lacksQ kind l ns).1 := ⟨_, rfl⟩
  obtain ⟨er, her⟩ : ∃ er, er = (Cd.lacksQ kind l ns).2 := ⟨_, rfl⟩
  have HQ : Hid (∀ (W W' : World) (e : Ending), RetLk (Cd.lacksQ kind l ns) W e W' → ∃ A2 c2, e = .returned (.tuple #[.slice A2 ls.length c2, .int .i64 er]) ∧ Below W.heap.size W W' ∧ RdS W' W'.heap.size 1 encInt (.slice A2 ls.length c2) ls) := Lib.hid fun W W' e q => by
    obtain ⟨A2, c2, q1, q2, q3⟩ := q
    rw [hls, her]
    exact ⟨A2, c2, q1, q2, rds_of_own len_int q3⟩
  have HC1 : Hid (∀ W, Below W1.heap.size W1 W → Calls Tryz.prog 14 #[.agg #[.int .i64 l.periods, .slice A0 l.signs.length c0]] W (fun e w' => ∃ A3 c3, e = .returned (.agg #[.int .i64 l.periods, .slice A3 l.signs.length c3]) ∧ Below W1.heap.size W1 w' ∧ RdSL w' w'.heap.size (.agg #[.int .i64 l.periods, .slice A3 l.signs.length c3]) l)) := Lib.hid fun W q => by
    refine (r1Copy_any _ l W (HLX.out W q).1 hsm).mono ?_
    rintro e w' ⟨v, q1, q2, q3⟩
    obtain ⟨A3, c3, rfl⟩ := rdsl_shape q2
    exact ⟨A3, c3, q1, q.trans (q3.mono q.size), q2⟩
  have HC2 : Hid (∀ (W : World) (v : Value), Below W1.heap.size W1 W → RdSL W W.heap.size v l → Calls Tryz.prog 15 #[.agg #[.slice A ns.length c]] W (fun e w' => ∃ A3 c3, e = .returned (.agg #[.slice A3 ns.length c3]) ∧ Below W1.heap.size W1 w' ∧ RdSL w' w'.heap.size v l ∧ RdN w' w'.heap.size (.slice A3 ns.length c3) ns)) := Lib.hid fun W v q q' => by
    refine (r2Copy_any A c ns W (HLX.out W q).2 (by omega)).mono ?_
    rintro e w' ⟨A3, c3, q1, q2, q3⟩
    exact ⟨A3, c3, q1, q.trans (q2.mono q.size), q'.on q2, q3⟩
  have HC3 : Hid (∀ (W : World) (v : Value) (A3 : Option Addr) (c3 : Nat), Below W1.heap.size W1 W → RdSL W W.heap.size v l → RdN W W.heap.size (.slice A3 ns.length c3) ns → Calls Tryz.prog 13 #[.int .i64 kind, v, .agg #[.slice A3 ns.length c3]] W (fun e w' => ∃ A2 c2, e = .returned (.tuple #[.slice A2 ls.length c2, .int .i64 er]) ∧ Below W1.heap.size W1 w' ∧ RdS w' w'.heap.size 1 encInt (.slice A2 ls.length c2) ls)) := Lib.hid fun W v A3 c3 q q1 q2 => by
    refine (Lacks_any kind l ns v W A3 c3 q1 q2).mono ?_
    intro e w' q3
    obtain ⟨A2, c2, e1, e2, e3⟩ := HQ.out _ _ _ q3
    exact ⟨A2, c2, e1, q.trans (e2.mono q.size), e3⟩
  have HC4 : Hid (∀ (W : World), Below W1.heap.size W1 W → Calls Tryz.prog 16 #[.int .i64 kind, .agg #[.int .i64 l.periods, .slice A0 l.signs.length c0], .agg #[.slice A ns.length c]] W (fun e w' => ∃ A2 c2, e = .returned (.tuple #[.slice A2 ls.length c2, .int .i64 er]) ∧ Below W.heap.size W w' ∧ RdS w' w'.heap.size 1 encInt (.slice A2 ls.length c2) ls)) := Lib.hid fun W q => by
    refine (r3Lacks_any kind l ns _ W A c (HLX.out W q).1 (HLX.out W q).2).mono ?_
    intro e w' q3
    exact HQ.out _ _ _ q3
  obtain ⟨x0, x1, x2⟩ := HX.out w2 HB2.out
  clear hsm hls her
  go_upto_region 3 with fail
  go_cut [5, 6] from 12 to 22 (fun u v wc => ∃ A2 c2, u = .slice A2 ls.length c2 ∧ RdS wc wc.heap.size 1 encInt (.slice A2 ls.length c2) ls ∧ v = .int .i64 er ∧ Below W1.heap.size W1 wc)
  case first =>
    go_region_with (first
      | (go_at_call 14; refine (HC1.out _ (HB2.out.trans (drew_below 1))).mono ?_; rintro e w5 ⟨A5, c5, rfl, hb5, hr5⟩; have HB5 := Lib.hid hb5; have HR5 := Lib.hid hr5; obtain ⟨x0', x1', x2'⟩ := HX.out w5 hb5; clear hb5 hr5)
      | (go_at_call 15; refine (HC2.out w5 _ HB5.out HR5.out).mono ?_; rintro e w6 ⟨A6, c6, rfl, hb6, hr6, hn6⟩; have HB6 := Lib.hid hb6; have HR6 := Lib.hid hr6; have HN6 := Lib.hid hn6; clear hb6 hr6 hn6)
      | (go_at_call 13; refine (HC3.out w6 _ _ _ HB6.out HR6.out HN6.out).mono ?_; rintro e w7 ⟨A7, c7, rfl, hb7, hs7⟩; have HB7 := Lib.hid hb7; have HS7 := Lib.hid hs7; clear hb7 hs7))
    all_goals
      try go_wp2_with fail
      go_meet
      case rel => exact ⟨_, _, rfl, HS7.out, rfl, HB7.out⟩
  case rest =>
    obtain ⟨A7, c7, rfl, hs7, rfl, hb7⟩ := hcut
    have HB7 := Lib.hid hb7
    have HS7 := Lib.hid hs7
    clear x0 x1 x2
    obtain ⟨x0, x1, x2⟩ := HX.out wc hb7
    clear hb7 hs7
    go_wp2_with fail
    refine (HC4.out wc HB7.out).mono ?_
    rintro e w8 ⟨A8, c8, rfl, hb8, hs8⟩
    have HB8 := Lib.hid (HB7.out.trans (hb8.mono HB7.out.size))
    have HSI := Lib.hid (l1SameInts_any _ _ ls w8 (HS7.out.below hb8) hs8)
    clear hb8 hs8 x0 x1 x2
    go_wp2_with fail
    refine HSI.out.mono ?_
    rintro e w9 ⟨rfl, hb9⟩
    have HB9 := Lib.hid (HB8.out.trans (hb9.mono HB8.out.size))
    clear hb9 HSI
    go_wp2_with fail
    refine (HWK.out w9).mono ?_
    rintro e wa ⟨rfl, hba⟩
    have HBA := Lib.hid hba
    clear hba
    go_wp2_with fail
    go_ret
    exact HFIN.out w9 wa HB9.out HBA.out
end Go.Proofs.YtenmkbpdkfhbjaaGreat
namespace Go.Proofs.YtenmkbpdkfhbjaaGreat
open Go.ChangeShapes Go.WideShapes Go.ChangeAt Go.RowKit Go.Joins Go.Deep

set_option maxRecDepth 100000
theorem list_of {α : Type} {Q : Nat → α → Prop} : ∀ (n : Nat), (∀ i, i < n → ∃ x, Q i x) → ∃ xs : List α, xs.length = n ∧ ∀ i x, xs[i]? = some x → Q i x
  | 0, _ => ⟨[], rfl, fun i x h => by simp at h⟩
  | n + 1, h => by
    obtain ⟨xs, hl, hx⟩ := list_of n (fun i hi => h i (by omega))
    obtain ⟨y, hy⟩ := h n (by omega)
    refine ⟨xs ++ [y], by simp [hl], fun i x hix => ?_⟩
    by_cases hi : i < xs.length
    · rw [List.getElem?_append_left hi] at hix
      exact hx i x hix
    · rw [List.getElem?_append_right (by omega)] at hix
      have : i - xs.length = 0 := by
        rcases Nat.eq_zero_or_pos (i - xs.length) with h0 | h0
        · exact h0
        · rw [List.getElem?_eq_none (by simp; omega)] at hix; cases hix
      rw [this] at hix
      simp at hix
      subst hix
      have : i = n := by omega
      subst this
      exact hy

theorem lt_of_cell {w : World} {a : Addr} {v : Value} (h : w.cell? a = some v) : a.block < w.heap.size := by
  rcases Nat.lt_or_ge a.block w.heap.size with h1 | h1
  · exact h1
  · simp [World.cell?, Array.getElem?_eq_none h1] at h

section
variable {H : Type} {enc : TypeId × Value → H} {w : World} {base : Nat} {spare : Nat → Bool} {held : Bool}
/-- A slice of rows: every row, read by 'row', is some 'en x'. -/
theorem open_rds {α : Type} {en : α → List Value} {size : Nat} {fits : α → Prop} {t e : TypeId} {fuel : Nat} {v : Value} {y : DataW H × List MemPlace} (ht : Tryz.prog.underlying t = some (.slice e)) (hC : Tryz.prog.cellsOf e = size) (hs : 0 < size) (hen : ∀ x, (en x).length = size)
    (row : ∀ (n : Nat) (cs : List Value) (d : DataW H) (p : List MemPlace), cs.length = size → DataW.trod enc Tryz.prog w base spare held n e cs = some (d, p) → ∃ x, cs = en x ∧ fits x)
    (h : DataW.trod enc Tryz.prog w base spare held fuel t [v] = some y) : ∃ xs : List α, RdS w w.heap.size size en v xs ∧ ∀ x ∈ xs, fits x := by
  rcases open_slice ht h with ⟨hcs, _⟩ | ⟨a, len, cap, m, n, D, Pl, hcs, hb, hl, hm, hmm, _, hx⟩
  · injection hcs with hcs
    subst hcs
    exact ⟨[], ⟨none, 0, rfl, by simp, by omega, fun h => by simp at h⟩, fun x hx => by cases hx⟩
  · injection hcs with hcs
    subst hcs
    have hlm : len ≤ m := by rw [hmm]; split <;> omega
    obtain ⟨xs, hxl, hxx⟩ := list_of (Q := fun i x => fits x ∧ ∀ j u, (en x)[j]? = some u → w.cell? (a.add (i * size + j)) = some u) len (fun i hi => by
      obtain ⟨cs', h1, h2⟩ := hx i (by omega)
      rw [hC] at h1
      obtain ⟨_, hcl, hat⟩ := World.cells?_some h1
      obtain ⟨x, rfl, hf⟩ := row n cs' _ _ hcl h2
      refine ⟨x, hf, fun j u hj => ?_⟩
      have hjl : j < size := by rw [← hen x]; exact (List.getElem?_eq_some_iff.1 hj).1
      rw [← Go.Deep.add_add, hat j hjl]
      exact hj)
    refine ⟨xs, ⟨some a, cap, by rw [hxl], by omega, by simpa [maxLen] using hm, fun h0 => ?_⟩, fun x hx => ?_⟩
    · have h0' : 0 < xs.length := h0
      have hx0 := (hxx 0 xs[0] (List.getElem?_eq_getElem h0')).2 0 ((en xs[0])[0]'(by rw [hen]; omega)) (List.getElem?_eq_getElem _)
      obtain ⟨b, off, spot⟩ := a
      have hspot : spot = none := by simpa [Addr.add] using World.cell?_spot hx0
      subst hspot
      refine ⟨b, off, rfl, ?_, fun i x hix j u hj => ?_⟩
      · have := lt_of_cell hx0
        simpa [Addr.add] using this
      · have := (hxx i x hix).2 j u hj
        rw [Go.WideShapes.add_plain] at this
        rw [Nat.add_assoc]
        exact this
    · obtain ⟨i, hi, rfl⟩ := List.mem_iff_getElem.1 hx
      exact (hxx i _ (List.getElem?_eq_getElem hi)).1

theorem fields_of {e : TypeId} {fs : Array Field} {n : Nat} {cs : List Value} {x : DataW H × List MemPlace} (he : Tryz.prog.underlying e = some (.struct fs)) (hone : oneCellFields Tryz.prog fs = true) (h : DataW.trod enc Tryz.prog w base spare held n e cs = some x) :
    ∃ (xs : List (DataW H × List MemPlace)) (m : Nat), xs.length = fs.size ∧ ∀ (i : Nat) (f : Field), fs[i]? = some f → DataW.trod enc Tryz.prog w base spare held m f.type ((cs.drop i).take 1) = xs[i]? := by
  obtain ⟨xs, m, _, _, _, hxl, hf⟩ := DataW.trod_struct he h
  refine ⟨xs, m, hxl, fun i f hi => ?_⟩
  obtain ⟨o, k⟩ := hone_of hone i f hi
  have := hf i f hi
  rwa [o, k] at this






end
end Go.Proofs.YtenmkbpdkfhbjaaGreat
namespace Go.Proofs.YtenmkbpdkfhbjaaGreat
open Go.ChangeShapes Go.WideShapes Go.ChangeAt Go.RowKit Go.Joins Go.Deep

set_option maxRecDepth 100000
section
variable {H : Type} {enc : TypeId × Value → H} {w : World} {base : Nat} {spare : Nat → Bool} {held : Bool}
/-- A slice of rows of whatever make. -/
theorem open_rdg {α : Type} {K : RowK α} {fits : α → Prop} {t e : TypeId} {fuel : Nat} {v : Value} {y : DataW H × List MemPlace} (ht : Tryz.prog.underlying t = some (.slice e)) (hC : Tryz.prog.cellsOf e = K.size) (hs : 0 < K.size)
    (row : ∀ (n : Nat) (cs : List Value) (d : DataW H) (p : List MemPlace), cs.length = K.size → DataW.trod enc Tryz.prog w base spare held n e cs = some (d, p) → ∃ x, K.rd w (· < w.heap.size) cs x ∧ fits x)
    (h : DataW.trod enc Tryz.prog w base spare held fuel t [v] = some y) : ∃ xs : List α, RdG K w (· < w.heap.size) v xs ∧ ∀ x ∈ xs, fits x := by
  rcases open_slice ht h with ⟨hcs, _⟩ | ⟨a, len, cap, m, n, D, Pl, hcs, hb, hl, hm, hmm, _, hx⟩
  · injection hcs with hcs
    subst hcs
    exact ⟨[], ⟨none, 0, rfl, by simp, by omega, fun h => by simp at h⟩, fun x hx => by cases hx⟩
  · injection hcs with hcs
    subst hcs
    have hlm : len ≤ m := by rw [hmm]; split <;> omega
    obtain ⟨xs, hxl, hxx⟩ := list_of (Q := fun i x => fits x ∧ ∃ cs, K.rd w (· < w.heap.size) cs x ∧ ∀ (j : Nat) (u : Value), cs[j]? = some u → w.cell? (a.add (i * K.size + j)) = some u) len (fun i hi => by
      obtain ⟨cs', h1, h2⟩ := hx i (by omega)
      rw [hC] at h1
      obtain ⟨_, hcl, hat⟩ := World.cells?_some h1
      obtain ⟨x, hr, hf⟩ := row n cs' _ _ hcl h2
      refine ⟨x, hf, cs', hr, fun j u hj => ?_⟩
      have hjl : j < K.size := by rw [← hcl]; exact (List.getElem?_eq_some_iff.1 hj).1
      rw [← Go.Deep.add_add, hat j hjl]
      exact hj)
    refine ⟨xs, ⟨some a, cap, by rw [hxl], by omega, by simpa [maxLen] using hm, fun h0 => ?_⟩, fun x hx => ?_⟩
    · have h0' : 0 < xs.length := h0
      obtain ⟨_, cs0, hr0, hc0⟩ := hxx 0 xs[0] (List.getElem?_eq_getElem h0')
      have hl0 := K.len hr0
      have hx0 := hc0 0 (cs0[0]'(by omega)) (List.getElem?_eq_getElem _)
      obtain ⟨b, off, spot⟩ := a
      have hspot : spot = none := by simpa [Addr.add] using World.cell?_spot hx0
      subst hspot
      refine ⟨b, off, rfl, ?_, fun i x hix => ?_⟩
      · have := lt_of_cell hx0
        simpa [Addr.add] using this
      · obtain ⟨_, cs, hr, hc⟩ := hxx i x hix
        refine ⟨cs, hr, fun j u hj => ?_⟩
        have := hc j u hj
        rw [Go.WideShapes.add_plain] at this
        rw [Nat.add_assoc]
        exact this
    · obtain ⟨i, hi, rfl⟩ := List.mem_iff_getElem.1 hx
      exact (hxx i _ (List.getElem?_eq_getElem hi)).1
theorem row_value {n : Nat} {cs : List Value} {d : DataW H} {p : List MemPlace} (hcl : cs.length = 4) (h : DataW.trod enc Tryz.prog w base spare held n 103 cs = some (d, p)) : ∃ x : Sg.Value, cs = encValue x ∧ Sg.Value.fits x := by
  obtain ⟨xs, m, hxl, hf⟩ := fields_of Tryz.underlying103 (by kernel_rfl) h
  match cs, hcl, xs, hxl with
  | [a0, a1, a2, a3], _, [y0, y1, y2, y3], _ =>
    have g0 := hf 0 _ rfl
    have g1 := hf 1 _ rfl
    have g2 := hf 2 _ rfl
    have g3 := hf 3 _ rfl
    obtain ⟨b0, e0, _, _⟩ := DataW.trod_int Tryz.underlying3 (show DataW.trod enc Tryz.prog w base spare held m 3 [a0] = some y0 from g0)
    cases e0
    obtain ⟨b1, e1, _, z1⟩ := DataW.trod_string Tryz.underlying9 (show DataW.trod enc Tryz.prog w base spare held m 9 [a1] = some y1 from g1)
    cases e1
    obtain ⟨b2, e2, _, _⟩ := DataW.trod_int Tryz.underlying3 (show DataW.trod enc Tryz.prog w base spare held m 3 [a2] = some y2 from g2)
    cases e2
    obtain ⟨b3, e3, _, _⟩ := DataW.trod_int Tryz.underlying3 (show DataW.trod enc Tryz.prog w base spare held m 3 [a3] = some y3 from g3)
    cases e3
    exact ⟨⟨b0, b1, b2, b3⟩, rfl, z1⟩
theorem row_sign {n : Nat} {cs : List Value} {d : DataW H} {p : List MemPlace} (hcl : cs.length = 5) (h : DataW.trod enc Tryz.prog w base spare held n 66 cs = some (d, p)) : ∃ x : Sg.Sign, KSign.rd w (· < w.heap.size) cs x ∧ Sg.Sign.fits x := by
  obtain ⟨xs, m, hxl, hf⟩ := fields_of Tryz.underlying66 (by kernel_rfl) h
  match cs, hcl, xs, hxl with
  | [a0, a1, a2, a3, a4], _, [y0, y1, y2, y3, y4], _ =>
    have g0 := hf 0 _ rfl
    have g1 := hf 1 _ rfl
    have g2 := hf 2 _ rfl
    have g3 := hf 3 _ rfl
    have g4 := hf 4 _ rfl
    obtain ⟨b0, e0, _, z0⟩ := DataW.trod_string Tryz.underlying9 (show DataW.trod enc Tryz.prog w base spare held m 9 [a0] = some y0 from g0)
    cases e0
    obtain ⟨b1, e1, _, _⟩ := DataW.trod_int Tryz.underlying3 (show DataW.trod enc Tryz.prog w base spare held m 3 [a1] = some y1 from g1)
    cases e1
    obtain ⟨b2, e2, _, _⟩ := DataW.trod_int Tryz.underlying3 (show DataW.trod enc Tryz.prog w base spare held m 3 [a2] = some y2 from g2)
    cases e2
    obtain ⟨b3, e3, _⟩ := DataW.trod_bool Tryz.underlying4 (show DataW.trod enc Tryz.prog w base spare held m 4 [a3] = some y3 from g3)
    cases e3
    obtain ⟨vs, hv, hfv⟩ := open_rds (en := encValue) (fits := Sg.Value.fits) Tryz.underlying64 (by kernel_rfl) (by decide) (fun _ => rfl) (fun n cs d p hl h => row_value hl h) (show DataW.trod enc Tryz.prog w base spare held m 64 [a4] = some y4 from g4)
    exact ⟨⟨b0, b1, b2, b3, vs⟩, ⟨a4, rfl, RdX.of hv⟩, z0, hfv⟩
end
end Go.Proofs.YtenmkbpdkfhbjaaGreat
namespace Go.Proofs.YtenmkbpdkfhbjaaGreat
open Go.ChangeShapes Go.WideShapes Go.ChangeAt Go.RowKit Go.Joins Go.Deep

set_option maxRecDepth 100000
section
variable {H : Type} {enc : TypeId × Value → H} {w : World} {base : Nat} {spare : Nat → Bool} {held : Bool}
theorem row_slist {n : Nat} {c0 c1 : Value} {y : DataW H × List MemPlace} (h : DataW.trod enc Tryz.prog w base spare held n 24 [c0, c1] = some y) : ∃ (p : Int) (x : Sg.SList), c0 = .int .i64 p ∧ RdSL w w.heap.size (.agg #[.int .i64 p, c1]) x := by
  obtain ⟨xs, m, hxl, hf⟩ := fields_of Tryz.underlying24 (by kernel_rfl) h
  match xs, hxl with
  | [y0, y1], _ =>
    have g0 := hf 0 _ rfl
    have g1 := hf 1 _ rfl
    obtain ⟨a, e0, _, _⟩ := DataW.trod_int Tryz.underlying3 (show DataW.trod enc Tryz.prog w base spare held m 3 [c0] = some y0 from g0)
    cases e0
    obtain ⟨ss, hs, hfs⟩ := open_rdg (K := KSign) (fits := Sg.Sign.fits) Tryz.underlying22 (by kernel_rfl) (by decide) (fun n cs d p hl h => row_sign hl h) (show DataW.trod enc Tryz.prog w base spare held m 22 [c1] = some y1 from g1)
    exact ⟨a, ⟨a, ss⟩, rfl, ⟨⟨c1, rfl, hs⟩, hfs⟩⟩
def Tx.fitsN (_ : Tx.Node) : Prop := True
theorem row_node {n : Nat} {cs : List Value} {d : DataW H} {p : List MemPlace} (hcl : cs.length = 8) (h : DataW.trod enc Tryz.prog w base spare held n 59 cs = some (d, p)) : ∃ x : Tx.Node, cs = encN x ∧ Tx.fitsN x := by
  obtain ⟨xs, m, hxl, hf⟩ := fields_of Tryz.underlying59 (by kernel_rfl) h
  match cs, hcl, xs, hxl with
  | [a0, a1, a2, a3, a4, a5, a6, a7], _, [y0, y1, y2, y3, y4, y5, y6, y7], _ =>
    have g0 := hf 0 _ rfl
    have g1 := hf 1 _ rfl
    have g2 := hf 2 _ rfl
    have g3 := hf 3 _ rfl
    have g4 := hf 4 _ rfl
    have g5 := hf 5 _ rfl
    have g6 := hf 6 _ rfl
    have g7 := hf 7 _ rfl
    obtain ⟨b0, e0, _, _⟩ := DataW.trod_int Tryz.underlying3 (show DataW.trod enc Tryz.prog w base spare held m 3 [a0] = some y0 from g0)
    cases e0
    obtain ⟨b1, e1, _, _⟩ := DataW.trod_int Tryz.underlying3 (show DataW.trod enc Tryz.prog w base spare held m 3 [a1] = some y1 from g1)
    cases e1
    obtain ⟨b2, e2, _, _⟩ := DataW.trod_int Tryz.underlying3 (show DataW.trod enc Tryz.prog w base spare held m 3 [a2] = some y2 from g2)
    cases e2
    obtain ⟨b3, e3, _, _⟩ := DataW.trod_int Tryz.underlying3 (show DataW.trod enc Tryz.prog w base spare held m 3 [a3] = some y3 from g3)
    cases e3
    obtain ⟨b4, e4, _⟩ := DataW.trod_bool Tryz.underlying4 (show DataW.trod enc Tryz.prog w base spare held m 4 [a4] = some y4 from g4)
    cases e4
    obtain ⟨b5, e5, _, _⟩ := DataW.trod_int Tryz.underlying3 (show DataW.trod enc Tryz.prog w base spare held m 3 [a5] = some y5 from g5)
    cases e5
    obtain ⟨b6, e6, _, _⟩ := DataW.trod_int Tryz.underlying3 (show DataW.trod enc Tryz.prog w base spare held m 3 [a6] = some y6 from g6)
    cases e6
    obtain ⟨b7, e7, _, _⟩ := DataW.trod_int Tryz.underlying3 (show DataW.trod enc Tryz.prog w base spare held m 3 [a7] = some y7 from g7)
    cases e7
    exact ⟨⟨b0, b1, b2, b3, b4, b5, b6, b7⟩, rfl, trivial⟩
/-- a list and a text -/
theorem open_paper {r : Reach} {b0 : Nat} {v : Value} {d : DataW H} {p : List MemPlace} (hv : Value.okWide Tryz.prog w r b0 29 v) (h : DataW.Trod enc Tryz.prog w base spare held 29 v d p) :
    ∃ (l : Sg.SList) (q : Int) (us : Value) (A : Option Addr) (c : Nat) (ns : List Tx.Node), v = .agg #[.int .i64 q, us, .slice A ns.length c] ∧ RdSL w w.heap.size (.agg #[.int .i64 q, us]) l ∧ RdN w w.heap.size (.slice A ns.length c) ns := by
  obtain ⟨cs, rfl, hsz⟩ := okWide_struct Tryz.underlying29 hv
  obtain ⟨c0, c1, c2, rfl⟩ := array3 (hsz.trans (by kernel_rfl))
  obtain ⟨fuel, hf⟩ := h
  obtain ⟨xs, n, _, _, _, hxl, hff⟩ := DataW.trod_struct Tryz.underlying29 hf
  match xs, hxl with
  | [y0, y1], _ =>
    have g0 := hff 0 _ rfl
    have g1 := hff 1 _ rfl
    obtain ⟨q, x, rfl, hx⟩ := row_slist (y := y0) (n := n) (c0 := c0) (c1 := c1) (enc := enc) (base := base) (spare := spare) (held := held) g0
    obtain ⟨zs, m, hzl, hz⟩ := fields_of Tryz.underlying27 (by kernel_rfl) (show DataW.trod enc Tryz.prog w base spare held n 27 [c2] = some y1 from g1)
    match zs, hzl with
    | [z0], _ =>
      have k0 := hz 0 _ rfl
      obtain ⟨ns, hns, -⟩ := open_rds (en := encN) (fits := Tx.fitsN) Tryz.underlying25 (by kernel_rfl) (by decide) (fun _ => rfl) (fun n cs d p hl h => row_node hl h) (show DataW.trod enc Tryz.prog w base spare held m 25 [c2] = some z0 from k0)
      obtain ⟨A, c, e, _⟩ := id hns
      subst e
      exact ⟨x, q, c1, A, c, ns, rfl, hx, hns⟩
end
end Go.Proofs.YtenmkbpdkfhbjaaGreat
