/- ostraconlaw01.Big.; ostraconlaw01.Large. Cut out of XSgVOwn by gen_sglaw13.py.; strings.Builder's WriteString and WriteByte: what lies beside the builder stays. -/
import Derived.Test.YtenmkbpdkfhbjaaGreatRcSgCopy
import Derived.Test.YtenmkbpdkfhbjaaGreatRcRDec
import Derived.Test.YtenmkbpdkfhbjaaGreatRcFmtPlain
namespace Go.Proofs.YtenmkbpdkfhbjaaGreat
open Go Go.RowKit

def Sg.longV (v : Sg.Value) : Bool := decide (100 < v.text.size)
def Sg.bigS (s : Sg.Sign) : Bool := decide (20 < s.values.length) || decide (100 < s.code.size) || s.values.any Sg.longV
def Sg.bigV (l : Sg.SList) : Bool := decide (210 < l.signs.length) || l.signs.any Sg.bigS
theorem Sg.big_small {l : Sg.SList} (h : Sg.bigV l = false) : Sg.Small l ∧ l.signs.length ≤ 210 ∧ ∀ s ∈ l.signs, s.values.length ≤ 20 ∧ s.code.size ≤ 100 ∧ ∀ v ∈ s.values, v.text.size ≤ 100 := by
 unfold Sg.bigV at h
 rw [Bool.or_eq_false_iff, decide_eq_false_iff_not, List.any_eq_false] at h
 obtain ⟨h1, h2⟩ := h
 have h3 : ∀ s ∈ l.signs, s.values.length ≤ 20 ∧ s.code.size ≤ 100 ∧ ∀ v ∈ s.values, v.text.size ≤ 100 := fun s hs => by
  have := h2 s hs
  rw [Bool.not_eq_true] at this
  unfold Sg.bigS at this
  rw [Bool.or_eq_false_iff, Bool.or_eq_false_iff, decide_eq_false_iff_not, decide_eq_false_iff_not, List.any_eq_false] at this
  refine ⟨by omega, by omega, fun v hv => ?_⟩
  have := this.2 v hv
  unfold Sg.longV at this
  simp at this
  omega
 exact ⟨⟨by omega, fun s hs => by have := (h3 s hs).1; omega⟩, by omega, h3⟩
theorem any_at {α : Type} {p : α → Bool} {l : List α} {k : Nat} {a : α} (h : l[k]? = some a) (hp : p a = true) : l.any p = true := by
 rw [List.any_eq_true]
 exact ⟨a, List.mem_of_getElem? h, hp⟩
theorem any_no {α : Type} {p : α → Bool} {l : List α} (h : ∀ (j : Nat) a, j < l.length → l[j]? = some a → p a = false) : l.any p = false := by
 rw [List.any_eq_false]
 intro a ha
 obtain ⟨j, hj, e⟩ := List.getElem_of_mem ha
 rw [h j a hj (by rw [List.getElem?_eq_getElem hj, e])]
 simp
set_option maxRecDepth 100000 in
set_option maxHeartbeats 8000000 in
theorem l1Big_any (v : Value) (l : Sg.SList) (w : World) (hr : RdSL w w.heap.size v l) : Calls Tryz.prog 55 #[v] w (RetBB (Sg.bigV l) w) := by
 obtain ⟨⟨u, rfl, hg⟩, hf⟩ := hr
 have hn0 := hg.len
 obtain ⟨A0, c0, rfl⟩ := hg.form
 have HG0 := Lib.hid hg
 obtain ⟨W1, hW1⟩ : ∃ W1, W1 = w.alloc (.cells #[.int .i64 l.periods, .slice A0 l.signs.length c0] 24) := ⟨_, rfl⟩
 have hb1 : Below w.heap.size w W1 := by rw [hW1]; exact (Below.refl _ _).alloc (Nat.le_refl _) _
 have hX : W1.heap[w.heap.size]? = some (.cells #[.int .i64 l.periods, .slice A0 l.signs.length c0] 24 (0, 0)) := by rw [hW1]; exact heap_alloc_new _ _
 have x1 : W1.cell? ⟨w.heap.size, 1, none⟩ = some (.slice A0 l.signs.length c0) := by simp [World.cell?, hX]
 have HB1 := Lib.hid hb1
 have HW1 := Lib.hid hW1
 clear hg hf hW1 hb1 hX
 by_cases h210 : 210 < l.signs.length
 ·have HV : Hid (Sg.bigV l = true) := Lib.hid (by unfold Sg.bigV; simp [h210])
  have i1 : (210 : Int) < (l.signs.length : Int) := by omega
  clear h210
  go_enter Tryz.func55, Tryz.ntmps55
  go_upto_region 1 with fail
  rw [← HW1.out]
  go_wp2_with fail
  go_ret
  exact ⟨ret_bool HV.out.symm, HB1.out⟩
 have HBV : Hid (Sg.bigV l = l.signs.any Sg.bigS) := Lib.hid (by unfold Sg.bigV; simp [h210])
 have i1 : ¬ (210 : Int) < (l.signs.length : Int) := by omega
 clear h210
 go_enter Tryz.func55, Tryz.ntmps55
 go_upto_region 1 with fail
 rw [← HW1.out]
 go_wp2_with fail
 go_loopg [3] l.signs.length (fun g i wr => ∃ k : Nat, k ≤ l.signs.length ∧ g = l.signs.length - k ∧ i = .int .i64 k ∧ wr = W1 ∧ ∀ j s, j < k → l.signs[j]? = some s → Sg.bigS s = false)
 case atStart => exact ⟨0, Nat.zero_le _, rfl, rfl, rfl, fun j s hj => absurd hj (Nat.not_lt_zero j)⟩
 case round =>
  obtain ⟨k, hk, rfl, rfl, hwr, hno⟩ := hrel
  subst hwr
  have HNO := Lib.hid hno
  clear hno
  by_cases hlt : k < l.signs.length
  ·obtain ⟨b, off, rfl, hb, hcell⟩ := HG0.out.five (by omega)
   obtain ⟨s, hs⟩ : ∃ s, l.signs[k]? = some s := ⟨_, List.getElem?_eq_getElem hlt⟩
   obtain ⟨uv, hrd, g0, g1, g2, g3, g4⟩ := hcell k s hs
   have f0 := (HB1.out.cell (p := ⟨b, off + k * 5, none⟩) hb).trans g0
   have f4 := (HB1.out.cell (p := ⟨b, off + k * 5 + 4, none⟩) hb).trans g4
   obtain ⟨A2, c2, rfl, hvc, hvm⟩ := rds_form hrd.rds
   have HRV := Lib.hid hrd.rds
   have HS := Lib.hid hs
   have hkI : (0 : Int) ≤ (k : Int) := by omega
   have hkJ : (k : Int) < (l.signs.length : Int) := by omega
   clear hcell hs g0 g1 g2 g3 g4 hrd
   by_cases h20 : 20 < s.values.length
   ·have HV : Hid (Sg.bigV l = true) := Lib.hid (by rw [HBV.out]; exact any_at HS.out (by unfold Sg.bigS; simp [h20]))
    have j1 : (20 : Int) < (s.values.length : Int) := by omega
    clear h20
    go_wp2_with fail
    go_ret
    exact ⟨ret_bool HV.out.symm, HB1.out⟩
   have j1 : ¬ (20 : Int) < (s.values.length : Int) := by omega
   by_cases h100 : 100 < s.code.size
   ·have HV : Hid (Sg.bigV l = true) := Lib.hid (by rw [HBV.out]; exact any_at HS.out (by unfold Sg.bigS; simp [h100]))
    have j2 : (100 : Int) < (s.code.size : Int) := by omega
    clear h20 h100
    go_wp2_with fail
    go_ret
    exact ⟨ret_bool HV.out.symm, HB1.out⟩
   have j2 : ¬ (100 : Int) < (s.code.size : Int) := by omega
   have HBS : Hid (Sg.bigS s = s.values.any Sg.longV) := Lib.hid (by unfold Sg.bigS; simp [h20, h100])
   clear h20 h100
   go_wp2_with fail
   clear j2 f0
   go_loopg [4] s.values.length (fun g i wi => ∃ j : Nat, j ≤ s.values.length ∧ g = s.values.length - j ∧ i = .int .i64 j ∧ wi = wr ∧ ∀ i z, i < j → s.values[i]? = some z → Sg.longV z = false)
   case atStart => exact ⟨0, Nat.zero_le _, rfl, rfl, rfl, fun j z hj => absurd hj (Nat.not_lt_zero j)⟩
   case round =>
    rename World => wi
    obtain ⟨j, hj, rfl, rfl, hwi, hnj⟩ := hrel
    subst hwi
    have HNJ := Lib.hid hnj
    clear hnj
    by_cases hltj : j < s.values.length
    ·obtain ⟨y, hy⟩ : ∃ y, s.values[j]? = some y := ⟨_, List.getElem?_eq_getElem hltj⟩
     obtain ⟨bv, ov, rfl, hbv, hcv⟩ := RdX.four HRV.out (by omega)
     obtain ⟨g0, g1, g2, g3⟩ := hcv j y hy
     have f1 := (HB1.out.cell (p := ⟨bv, ov + j * 4 + 1, none⟩) hbv).trans g1
     have HY := Lib.hid hy
     have hjI : (0 : Int) ≤ (j : Int) := by omega
     have hjJ : (j : Int) < (s.values.length : Int) := by omega
     clear hcv hy g0 g1 g2 g3
     by_cases hl : 100 < y.text.size
     ·have HV : Hid (Sg.bigV l = true) := Lib.hid (by rw [HBV.out]; exact any_at HS.out (by rw [HBS.out]; exact any_at HY.out (by unfold Sg.longV; simp [hl])))
      have j3 : (100 : Int) < (y.text.size : Int) := by omega
      clear hl
      go_wp2_with fail
      go_ret
      exact ⟨ret_bool HV.out.symm, HB1.out⟩
     ·have j3 : ¬ (100 : Int) < (y.text.size : Int) := by omega
      have HN2 : Hid (∀ i z, i < j + 1 → s.values[i]? = some z → Sg.longV z = false) := Lib.hid fun i z hi hz => by
       by_cases e : i = j
       ·subst e; rw [HY.out] at hz; cases hz; unfold Sg.longV; simp; omega
       ·exact HNJ.out i z (by omega) hz
      clear hl
      go_wp2_with fail
      go_roundg (s.values.length - (j + 1))
      case measure => omega
      case rel => exact ⟨j + 1, by omega, rfl, by go_num, rfl, HN2.out⟩
    ·have HN2 : Hid (∀ j s, j < k + 1 → l.signs[j]? = some s → Sg.bigS s = false) := Lib.hid fun i z hi hz => by
      by_cases e : i = k
      ·subst e; rw [HS.out] at hz; cases hz; rw [HBS.out]; exact any_no fun q a hq ha => HNJ.out q a (by omega) ha
      ·exact HNO.out i z (by omega) hz
     go_wp2_with fail
     go_roundg (l.signs.length - (k + 1))
     case measure => omega
     case rel => exact ⟨k + 1, by omega, rfl, by go_num, rfl, HN2.out⟩
  ·have HV : Hid (Sg.bigV l = false) := Lib.hid (by rw [HBV.out]; exact any_no fun j s hj hs => HNO.out j s (by omega) hs)
   go_wp2_with fail
   go_ret
   exact ⟨ret_bool HV.out.symm, HB1.out⟩
end Go.Proofs.YtenmkbpdkfhbjaaGreat
namespace Go.Proofs.YtenmkbpdkfhbjaaGreat
open Go Go.RowKit

def Sg.largeV (l : Sg.SList) : Bool := Sg.bigV l || decide (30 < l.signs.length)
set_option maxRecDepth 100000 in
set_option maxHeartbeats 4000000 in
theorem l1Large_any (v : Value) (l : Sg.SList) (w : World) (hr : RdSL w w.heap.size v l) : Calls Tryz.prog 34 #[v] w (RetBB (Sg.largeV l) w) := by
 have HRL := Lib.hid fun (W : World) (hW : Below w.heap.size w W) => hr.on hW
 obtain ⟨⟨u, rfl, hgl⟩, hf⟩ := hr
 obtain ⟨A0, c0, rfl⟩ := hgl.form
 obtain ⟨W1, hW1⟩ : ∃ W1, W1 = w.alloc (.cells #[.int .i64 l.periods, .slice A0 l.signs.length c0] 24) := ⟨_, rfl⟩
 have hb1 : Below w.heap.size w W1 := by rw [hW1]; exact (Below.refl _ _).alloc (Nat.le_refl _) _
 have hX : W1.heap[w.heap.size]? = some (.cells #[.int .i64 l.periods, .slice A0 l.signs.length c0] 24 (0, 0)) := by rw [hW1]; exact heap_alloc_new _ _
 have hs1 : w.heap.size < W1.heap.size := (Array.getElem?_eq_some_iff.1 hX).1
 have CX : Hid (∀ W, Below W1.heap.size W1 W → W.cell? ⟨w.heap.size, 0, none⟩ = some (.int .i64 l.periods) ∧ W.cell? ⟨w.heap.size, 1, none⟩ = some (.slice A0 l.signs.length c0)) := Lib.hid fun W hW => by
  have p := (hW.block _ hs1).trans hX
  exact ⟨by simp [World.cell?, p], by simp [World.cell?, p]⟩
 obtain ⟨x0, x1⟩ := CX.out W1 (Below.refl _ _)
 have HB1 := Lib.hid hb1
 have HW1 := Lib.hid hW1
 have HBG := Lib.hid (l1Big_any _ l W1 (HRL.out W1 hb1))
 obtain ⟨bg, hbg⟩ : ∃ bg, bg = Sg.bigV l := ⟨_, rfl⟩
 have HLV : Hid (Sg.largeV l = (bg || decide (30 < l.signs.length))) := Lib.hid (by rw [hbg]; rfl)
 rw [← hbg] at HBG
 clear hgl hf hW1 hb1 hX hbg
 go_enter Tryz.func34, Tryz.ntmps34
 go_upto_region 1 with fail
 rw [← HW1.out]
 go_wp2_with fail
 refine HBG.out.mono ?_
 rintro e w2 ⟨rfl, hb2⟩
 have HB2 := Lib.hid (HB1.out.trans (hb2.mono (by omega)))
 have H2 := Lib.hid hb2
 clear hb2 x0 x1
 obtain ⟨x0, x1⟩ := CX.out w2 H2.out
 cases bg
 case true =>
  have HV : Hid (Sg.largeV l = true) := Lib.hid (by rw [HLV.out]; rfl)
  go_wp2_with fail
  go_ret
  exact ⟨ret_bool HV.out.symm, HB2.out⟩
 by_cases h30 : 30 < l.signs.length
 ·have HV : Hid (Sg.largeV l = true) := Lib.hid (by rw [HLV.out, decide_eq_true h30]; rfl)
  have i1 : (30 : Int) < (l.signs.length : Int) := by omega
  clear h30
  go_wp2_with fail
  go_ret
  exact ⟨ret_bool HV.out.symm, HB2.out⟩
 ·have HV : Hid (Sg.largeV l = false) := Lib.hid (by rw [HLV.out, decide_eq_false h30]; rfl)
  have i1 : decide ((30 : Int) < (l.signs.length : Int)) = false := decide_eq_false (by omega)
  clear h30
  go_wp2_with fail
  go_ret
  exact ⟨ret_bool HV.out.symm, HB2.out⟩
end Go.Proofs.YtenmkbpdkfhbjaaGreat
namespace Go.Proofs.YtenmkbpdkfhbjaaGreat
open Go Go.RowKit

def Side (b : Nat) (w w' : World) : Prop := w.heap.size ≤ w'.heap.size ∧ ∀ k cs T fr, k ≠ b → T ≠ 5 → w.heap[k]? = some (.cells cs T fr) → w'.heap[k]? = some (.cells cs T fr)
theorem Side.refl (b : Nat) (w : World) : Side b w w := ⟨Nat.le_refl _, fun _ _ _ _ _ _ h => h⟩
theorem Side.trans {b : Nat} {w w' w'' : World} (h : Side b w w') (h' : Side b w' w'') : Side b w w'' := ⟨Nat.le_trans h.1 h'.1, fun k cs T fr hk hT h0 => h'.2 k cs T fr hk hT (h.2 k cs T fr hk hT h0)⟩
theorem Side.of {b : Nat} {w w' : World} (h : Below w.heap.size w w') : Side b w w' := ⟨h.size, fun k _ _ _ _ _ h0 => (h.block k (Array.getElem?_eq_some_iff.1 h0).1).trans h0⟩
theorem isB_below {B b : Nat} {bs : List Value} {w w' : World} (h : Lib.IsBuilder 124 5 B b bs w) (hb : Below w.heap.size w w') : Lib.IsBuilder 124 5 B b bs w' := by
 have key : ∀ p, Lib.BuilderAt 124 5 B b p bs w → Lib.BuilderAt 124 5 B b p bs w' := by
  rintro p ⟨hB, v, hbk, hown, hne⟩
  have hlt : b < w.heap.size := by
   rcases Nat.lt_or_ge b w.heap.size with h' | h'
   ·exact h'
   ·simp [Array.getElem?_eq_none h'] at hbk
  exact ⟨hB, v, (hb.block b hlt).trans hbk, keep_own hown hb, hne⟩
 exact h.elim (fun h => .inl (key _ h)) (fun h => .inr (key _ h))
theorem Side.set {b : Nat} (w : World) (o : Nat) (u : Value) : Side b w (w.setCell ⟨b, o, none⟩ u) := ⟨by simp [World.setCell], fun k cs T fr hk _ h0 => (Below.heap_setCell _ ⟨b, o, none⟩ _ _ (by exact hk)).trans h0⟩
theorem copyCheck_side (B b : Nat) (bs : List Value) (w : World) (h : Lib.IsBuilder 124 5 B b bs w) :
  Calls Tryz.prog 149 #[.pointer (some ⟨b, 0, none⟩)] w (fun e w' => e = .returned (.tuple #[]) ∧ Lib.BuilderAt 124 5 B b (.pointer (some ⟨b, 0, none⟩)) bs w' ∧ Below B w w' ∧ Side b w w') := by
 rcases h with h | h
 ·refine (copyCheck_fresh b w h.cell0 h.shape h.frozen0).mono ?_
  rintro e w' ⟨rfl, rfl⟩
  exact ⟨rfl, h.used _, (Below.refl B w).setCell (p := ⟨b, 0, none⟩) h.1 _, Side.set w 0 _⟩
 ·refine (copyCheck_used b w h.cell0).mono ?_
  rintro e w' ⟨rfl, rfl⟩
  exact ⟨rfl, h, Below.refl B _, Side.refl _ _⟩
def RetW (B b : Nat) (l : List UInt8) (n : Nat) (w : World) (e : Ending) (w' : World) : Prop := e = .returned (.tuple #[.int .i64 n, .nilIface]) ∧ Lib.IsBuilder 124 5 B b (Lib.byteCells l) w' ∧ Below B w w' ∧ Side b w w'
set_option maxRecDepth 100000 in
set_option maxHeartbeats 2000000 in
theorem gWrite_any (B b : Nat) (l : List UInt8) (s : ByteArray) (w : World) (h : Lib.IsBuilder 124 5 B b (Lib.byteCells l) w) (hlen : l.length + s.size ≤ 10000000) (hBw : B ≤ w.heap.size) :
  Calls Tryz.prog 146 #[.pointer (some ⟨b, 0, none⟩), .string s] w (RetW B b (l ++ s.data.toList) s.size w) := by
 obtain ⟨i0, hi, hz0, hz1, hz2⟩ := info_parts info_u8
 have hbl : (Lib.byteCells l).length = l.length := by simp [Lib.byteCells]
 unfold RetW
 rw [← cells_append]
 go_enter Tryz.func146, Tryz.ntmps146
 go_wp2_with fail
 refine (copyCheck_side B b (Lib.byteCells l) _ h).mono ?_
 rintro e w1 ⟨rfl, h1, hb1, hsd1⟩
 have HSD1 := Lib.hid hsd1
 clear hsd1
 obtain ⟨hB, v, hbk, hown, hne⟩ := h1
 have c0 : w1.cell? ⟨b, 0, none⟩ = some (.pointer (some ⟨b, 0, none⟩)) := by rw [Lib.cell_of_heap hbk]; rfl
 have c1 : w1.cell? ⟨b, 1, none⟩ = some v := by rw [Lib.cell_of_heap hbk]; rfl
 have hs1 := hb1.size
 go_wp2_with (at_builtin; refine Lib.wpList_append_own_string _ rfl _ _ 122 9 rfl B 5 i0 Tryz.underlying122 Tryz.underlying9 hi hz0 hz1 hz2 _ _ _ rfl hown s rfl ?c3 ?c4 ?c5 ?_)
 case c3 => unfold maxLen; omega
 case c4 => omega
 case c5 => omega
 intro v' w2 hown' hgrow _
 have hlt : b < w1.heap.size := by
  rcases Nat.lt_or_ge b w1.heap.size with h' | h'
  ·exact h'
  ·simp [Array.getElem?_eq_none h'] at hbk
 have hb2 : w2.heap[b]? = some (.cells #[.pointer (some ⟨b, 0, none⟩), v] 124 (0, 0)) := by
  rw [hgrow.block b hlt (fun e => hne e.symm)]
  exact hbk
 have hsd2 : Side b w1 w2 := ⟨hgrow.size, fun k cs T fr _ hT h0 => (hgrow.block k (Array.getElem?_eq_some_iff.1 h0).1 (fun e => by
  rcases hown.2 with ⟨rfl, -⟩ | ⟨g, cap, cur, rfl, -, hh, -⟩
  ·cases e
  ·have e' : k = g := by simpa [Value.ownBlock] using e
   subst e'
   rw [hh] at h0
   injection h0 with h0
   injection h0 with _ h0
   exact hT h0.symm)).trans h0⟩
 have HSD2 := Lib.hid hsd2
 have d0 : w2.cell? ⟨b, 0, none⟩ = some (.pointer (some ⟨b, 0, none⟩)) := by rw [Lib.cell_of_heap hb2]; rfl
 have d1 : w2.cell? ⟨b, 1, none⟩ = some v := by rw [Lib.cell_of_heap hb2]; rfl
 have f1 : w2.frozen? ⟨b, 1, none⟩ = false := Lib.frozen_of_heap hb2 1
 clear hsd2
 obtain ⟨ao, n', cap, rfl⟩ : ∃ ao n' cap, v' = .slice ao n' cap := by
  rcases hown'.2 with ⟨hv, _⟩ | ⟨g, cap, cur, hv, _⟩
  ·exact ⟨_, _, _, hv⟩
  ·exact ⟨_, _, _, hv⟩
 go_wp2_with fail
 go_ret2
 refine ⟨rfl, .inr ?_, ?_, (HSD1.out.trans HSD2.out).trans (Side.set w2 1 _)⟩
 ·exact Lib.BuilderAt.put (T := 124) (e := 5) hB hb2 (bs' := Lib.byteCells l ++ Lib.strCells s) (by simpa [Lib.strCells_length, Lib.byteCells_length] using hown') (by decide)
 ·exact (hb1.grown hgrow (by omega) (fun k hk => (hown.lt k hk).1)).setCell (p := ⟨b, 1, none⟩) hB _
def RetWb (B b : Nat) (l : List UInt8) (w : World) (e : Ending) (w' : World) : Prop := e = .returned .nilIface ∧ Lib.IsBuilder 124 5 B b (Lib.byteCells l) w' ∧ Below B w w' ∧ Side b w w'
theorem byteCells_snoc (l : List UInt8) (c : UInt8) : Lib.byteCells l ++ [Value.int .u8 c.toNat] = Lib.byteCells (l ++ [c]) := by simp [Lib.byteCells]
set_option maxRecDepth 100000 in
set_option maxHeartbeats 2000000 in
theorem gWriteByte_any (B b : Nat) (l : List UInt8) (c : UInt8) (w : World) (h : Lib.IsBuilder 124 5 B b (Lib.byteCells l) w) (hlen : l.length + 1 ≤ 10000000) (hBw : B ≤ w.heap.size) :
  Calls Tryz.prog 181 #[.pointer (some ⟨b, 0, none⟩), .int .u8 c.toNat] w (RetWb B b (l ++ [c]) w) := by
 obtain ⟨i0, hi, hz0, hz1, hz2⟩ := info_parts info_u8
 have hbl : (Lib.byteCells l).length = l.length := by simp [Lib.byteCells]
 unfold RetWb
 rw [← byteCells_snoc]
 go_enter Tryz.func181, Tryz.ntmps181
 go_wp2_with fail
 refine (copyCheck_side B b (Lib.byteCells l) _ h).mono ?_
 rintro e w1 ⟨rfl, h1, hb1, hsd1⟩
 have HSD1 := Lib.hid hsd1
 clear hsd1
 obtain ⟨hB, v, hbk, hown, hne⟩ := h1
 have c0 : w1.cell? ⟨b, 0, none⟩ = some (.pointer (some ⟨b, 0, none⟩)) := by rw [Lib.cell_of_heap hbk]; rfl
 have c1 : w1.cell? ⟨b, 1, none⟩ = some v := by rw [Lib.cell_of_heap hbk]; rfl
 have hs1 := hb1.size
 go_wp2_with (at_builtin; refine wpList_append_own _ rfl _ _ 122 rfl B 5 i0 (.int .u8 0) 1 1 Tryz.underlying122 hi hz0 hz1 hz2 rfl (by decide) _ _ _ rfl (hown.alloc _) ⟨w1.heap.size, 0, none⟩ 1 1 [.int .u8 c.toNat] rfl rfl ?c1 ?c2 ?c3 ?c4 ?c5 ?_)
 case c1 =>
  intro j u hj
  match j, hj with
  | 0, hj => simp at hj; subst hj; simp [Addr.add]
 case c2 => intro u hu; simp at hu; subst hu; rfl
 case c3 => unfold maxLen; omega
 case c4 => omega
 case c5 => have := hb1.size; simp; omega
 intro v' w2 hown' hgrow _
 have hlt : b < w1.heap.size := by
  rcases Nat.lt_or_ge b w1.heap.size with h' | h'
  ·exact h'
  ·simp [Array.getElem?_eq_none h'] at hbk
 have hb2 : w2.heap[b]? = some (.cells #[.pointer (some ⟨b, 0, none⟩), v] 124 (0, 0)) := by
  rw [hgrow.block b (by simp; omega) (fun e => hne e.symm), Lib.alloc_old w1 _ b hlt]
  exact hbk
 have hsd2 : Side b w1 w2 := ⟨Nat.le_trans (by simp) hgrow.size, fun k cs T fr _ hT h0 => by
  have hk := (Array.getElem?_eq_some_iff.1 h0).1
  rw [hgrow.block k (by simp; omega) (fun e => by
   rcases hown.2 with ⟨rfl, -⟩ | ⟨g, cap, cur, rfl, -, hh, -⟩
   ·cases e
   ·have e' : k = g := by simpa [Value.ownBlock] using e
    subst e'
    rw [hh] at h0
    injection h0 with h0
    injection h0 with _ h0
    exact hT h0.symm), Lib.alloc_old w1 _ k hk]
  exact h0⟩
 have HSD2 := Lib.hid hsd2
 have d0 : w2.cell? ⟨b, 0, none⟩ = some (.pointer (some ⟨b, 0, none⟩)) := by rw [Lib.cell_of_heap hb2]; rfl
 have d1 : w2.cell? ⟨b, 1, none⟩ = some v := by rw [Lib.cell_of_heap hb2]; rfl
 have f1 : w2.frozen? ⟨b, 1, none⟩ = false := Lib.frozen_of_heap hb2 1
 have hb12 : Below B w1 w2 := ((Below.refl B w1).alloc (by omega) _).grown hgrow (by simp; omega) (fun k hk => (hown.lt k hk).1)
 have HB12 := Lib.hid hb12
 clear hsd2 hb12
 obtain ⟨ao, n', cap, rfl⟩ : ∃ ao n' cap, v' = .slice ao n' cap := by
  rcases hown'.2 with ⟨hv, _⟩ | ⟨g, cap, cur, hv, _⟩
  ·exact ⟨_, _, _, hv⟩
  ·exact ⟨_, _, _, hv⟩
 go_wp2_with fail
 go_ret
 refine ⟨rfl, .inr ?_, ?_, (HSD1.out.trans HSD2.out).trans (Side.set w2 1 _)⟩
 ·exact Lib.BuilderAt.put (T := 124) (e := 5) hB hb2 (bs' := Lib.byteCells l ++ [.int .u8 c.toNat]) (by simpa [Lib.byteCells_length] using hown') (by decide)
 ·exact (hb1.trans HB12.out).setCell (p := ⟨b, 1, none⟩) hB _
end Go.Proofs.YtenmkbpdkfhbjaaGreat
