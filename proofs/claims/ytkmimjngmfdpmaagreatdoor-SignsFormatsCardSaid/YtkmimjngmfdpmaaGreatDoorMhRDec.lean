/- ostraconref01.InUse, has, Bearers; signs.Bearers. strings.Builder: copyCheck and WriteString, as this program's text has them. What a lexicon is as text: plain notions. ostraconref01.Decimal. -/
import Derived.Test.YtkmimjngmfdpmaaGreatDoorMgSgRCheck
import Derived.Test.YtkmimjngmfdpmaaGreatDoorMgSgBear
import Derived.Test.YtkmimjngmfdpmaaGreatDoorMgSgAfter
import Derived.Test.YtkmimjngmfdpmaaGreatDoorMgText01
import Derived.Lib.Builder
import Derived.Lib.AppendStr
import Derived.Test.YtkmimjngmfdpmaaGreatDoorMgGlossPlain
import Derived.Lib.ItoaLen
import Derived.Shelf.Strings.OnBuilder
import Derived.Shelf.Strconv.Itoa3
import Derived.Test.YtkmimjngmfdpmaaGreatDoorMgMatches
namespace Go.Proofs.YtkmimjngmfdpmaaGreatDoor
open Go Go.RowKit

def RetVals (q : List Sg.Value) (w : World) (e : Ending) (w' : World) : Prop := ∃ v, e = .returned v ∧ w'.ownsRow w.heap.size 60 4 v q.length (q.flatMap encValue) ∧ Below w.heap.size w w'
theorem filt_yes {α : Type} {p : α → Bool} {l : List α} {k : Nat} {a : α} (h : l[k]? = some a) (hp : p a = true) : (l.take (k + 1)).filter p = (l.take k).filter p ++ [a] := by
  rw [List.take_add_one, h, List.filter_append]
  simp [hp]
theorem filt_no {α : Type} {p : α → Bool} {l : List α} {k : Nat} {a : α} (h : l[k]? = some a) (hp : p a = false) : (l.take (k + 1)).filter p = (l.take k).filter p := by
  rw [List.take_add_one, h, List.filter_append]
  simp [hp]
set_option maxRecDepth 100000 in
set_option maxHeartbeats 8000000 in
theorem r1InUse_any (s : Sg.Sign) (uv : Value) (p : Int) (w : World) (hrd : RdS w w.heap.size 4 encValue uv s.values) (hlen : s.values.length ≤ 1000) :
    Calls Tryz.prog 46 #[.agg #[.string s.code, .int .i64 s.wide, .int .i64 s.high, .bool s.even, uv], .int .i64 p] w (RetVals (Sg.useV s p) w) := by
  obtain ⟨A2, c2, rfl, hvc, hvm⟩ := rds_form hrd
  have HRV := Lib.hid hrd
  obtain ⟨i1, hi1, hz1, hs1', hb1'⟩ := info_parts info_Value
  obtain ⟨W1, hW1⟩ : ∃ W1, W1 = w.alloc (.cells #[.string s.code, .int .i64 s.wide, .int .i64 s.high, .bool s.even, .slice A2 s.values.length c2] 67) := ⟨_, rfl⟩
  have hb1 : Below w.heap.size w W1 := by rw [hW1]; exact (Below.refl _ _).alloc (Nat.le_refl _) _
  have hX : W1.heap[w.heap.size]? = some (.cells #[.string s.code, .int .i64 s.wide, .int .i64 s.high, .bool s.even, .slice A2 s.values.length c2] 67 (0, 0)) := by rw [hW1]; exact heap_alloc_new _ _
  have hs1 : w.heap.size < W1.heap.size := (Array.getElem?_eq_some_iff.1 hX).1
  have HB1 := Lib.hid hb1
  have HW1 := Lib.hid hW1
  have HX1 := Lib.hid hX
  clear hrd hW1 hb1 hX
  go_enter Tryz.func46, Tryz.ntmps46
  go_upto_region 1 with fail
  rw [← HW1.out]
  go_wp2_with fail
  go_loopg [5, 6] s.values.length (fun g vv i wr => ∃ (k : Nat) (q : List Sg.Value), k ≤ s.values.length ∧ g = s.values.length - k ∧ i = .int .i64 k ∧ Below W1.heap.size W1 wr ∧ wr.ownsRow W1.heap.size 60 4 vv q.length (q.flatMap encValue) ∧ q = (s.values.take k).filter (Sg.inUseB · p))
  case atStart => exact ⟨0, [], Nat.zero_le _, rfl, rfl, Below.refl _ _, World.ownsRow_nil _ _ _ _, rfl⟩
  case round =>
    obtain ⟨k, q, hk, rfl, rfl, hbel, hown, hq⟩ := hrel
    obtain ⟨Av, cv, rfl⟩ := own_form hown
    have HBK := Lib.hid hbel
    have HOK := Lib.hid hown
    have HQ := Lib.hid hq
    have hszr := hbel.size
    have hql : q.length ≤ k := by rw [hq]; exact Nat.le_trans (List.length_filter_le _ _) (List.length_take_le _ _)
    have HBW : Hid (Below w.heap.size w wr) := Lib.hid (HB1.out.trans (hbel.mono (by omega)))
    have hxx := (hbel.block _ hs1).trans HX1.out
    have x4 : wr.cell? ⟨w.heap.size, 4, none⟩ = some (.slice A2 s.values.length c2) := by simp [World.cell?, hxx]
    clear hbel hown hq hxx
    by_cases hlt : k < s.values.length
    · obtain ⟨y, hy⟩ : ∃ y, s.values[k]? = some y := ⟨_, List.getElem?_eq_getElem hlt⟩
      obtain ⟨bv, ov, rfl, hbv, hcv⟩ := RdX.four HRV.out (by omega)
      obtain ⟨g0, g1, g2, g3⟩ := hcv k y hy
      have f0 := (HBW.out.cell (p := ⟨bv, ov + k * 4, none⟩) hbv).trans g0
      have f1 := (HBW.out.cell (p := ⟨bv, ov + k * 4 + 1, none⟩) hbv).trans g1
      have f2 := (HBW.out.cell (p := ⟨bv, ov + k * 4 + 2, none⟩) hbv).trans g2
      have f3 := (HBW.out.cell (p := ⟨bv, ov + k * 4 + 3, none⟩) hbv).trans g3
      have HY := Lib.hid hy
      have hkI : (0 : Int) ≤ (k : Int) := by omega
      have hkJ : (k : Int) < (s.values.length : Int) := by omega
      clear hcv hy g0 g1 g2 g3
      by_cases h1 : y.lo ≤ p
      case neg =>
        have HNX : Hid ((s.values.take (k + 1)).filter (Sg.inUseB · p) = (s.values.take k).filter (Sg.inUseB · p)) := Lib.hid (filt_no HY.out (by simp [Sg.inUseB, h1]))
        go_wp2_with fail
        go_roundg (s.values.length - (k + 1))
        case measure => omega
        case rel => exact ⟨k + 1, q, by omega, rfl, by go_num, HBK.out, HOK.out, by rw [HNX.out]; exact HQ.out⟩
      by_cases h2 : p ≤ y.hi
      case neg =>
        have HNX : Hid ((s.values.take (k + 1)).filter (Sg.inUseB · p) = (s.values.take k).filter (Sg.inUseB · p)) := Lib.hid (filt_no HY.out (by simp [Sg.inUseB, h2]))
        go_wp2_with fail
        go_roundg (s.values.length - (k + 1))
        case measure => omega
        case rel => exact ⟨k + 1, q, by omega, rfl, by go_num, HBK.out, HOK.out, by rw [HNX.out]; exact HQ.out⟩
      have HNX : Hid ((s.values.take (k + 1)).filter (Sg.inUseB · p) = (s.values.take k).filter (Sg.inUseB · p) ++ [y]) := Lib.hid (filt_yes HY.out (by simp [Sg.inUseB, h1, h2]))
      have HOS : Hid ((wr.alloc (.cells #[.int .i64 y.kind, .string y.text, .int .i64 y.lo, .int .i64 y.hi] 60)).ownsRow W1.heap.size 60 4 (.slice Av q.length cv) q.length (q.flatMap encValue)) := Lib.hid (keep_own HOK.out ((Below.refl _ _).alloc (Nat.le_refl _) _))
      have HRD := Lib.hid (rd_one_value wr y)
      have hk1 : q.length + 1 ≤ maxLen := by simp only [maxLen]; omega
      have hk2 : (q.length + 1) * 40 ≤ 140737488355328 := by omega
      have hbase : W1.heap.size ≤ (wr.alloc (.cells #[.int .i64 y.kind, .string y.text, .int .i64 y.lo, .int .i64 y.hi] 60)).heap.size := by simp; omega
      go_wp2_with (at_builtin; go_must (refine wpList_append_rd (enc := encValue) rfl (.tmp 32) (.tmp 38) _ rfl W1.heap.size 60 i1 _ 4 40 len_value one_value Tryz.underlying47 hi1 hz1 hs1' hb1' rfl (by decide) (.slice Av q.length cv) q.length (q.flatMap encValue) rfl HOS.out _ (.slice (some ⟨wr.heap.size, 0, none⟩) 1 1) [y] rfl HRD.out hk1 hk2 hbase ?_))
      intro v8 w8 hown8 hg8 hat8
      have HB8 : Hid (Below W1.heap.size W1 w8) := Lib.hid ((HBK.out.alloc (by omega) _).grown hg8 (by simp; omega) (fun q hq => (HOS.out.lt q hq).1))
      have HO8 := Lib.hid (own_value hown8)
      clear hown8 hg8 hat8
      go_wp2_with fail
      go_roundg (s.values.length - (k + 1))
      case measure => omega
      case rel => exact ⟨k + 1, q ++ [y], by omega, rfl, by go_num, HB8.out, HO8.out, by rw [HNX.out, ← HQ.out]⟩
    · have HE : Hid (q = Sg.useV s p) := Lib.hid (by rw [HQ.out, List.take_of_length_le (by omega)]; rfl)
      go_wp2_with fail
      go_ret
      exact ⟨_, rfl, by rw [← HE.out]; exact HOK.out.mono (by omega), HBW.out⟩
def Sg.sayB (kind : Int) (text : ByteArray) (v : Sg.Value) : Bool := decide (v.kind = kind) && decide (v.text = text)
theorem Sg.has_use (s : Sg.Sign) (kind : Int) (text : ByteArray) (p : Int) : Sg.hasB s kind text p = (Sg.useV s p).any (Sg.sayB kind text) := by
  unfold Sg.hasB Sg.useV
  rw [List.any_filter]
  congr 1
  funext v
  unfold Sg.sayB
  rw [Bool.and_comm]
theorem any_atU {α : Type} {p : α → Bool} {l : List α} {k : Nat} {a : α} (h : l[k]? = some a) (hp : p a = true) : l.any p = true := by
  rw [List.any_eq_true]
  exact ⟨a, List.mem_of_getElem? h, hp⟩
theorem any_noU {α : Type} {p : α → Bool} {l : List α} (h : ∀ (j : Nat) a, j < l.length → l[j]? = some a → p a = false) : l.any p = false := by
  rw [List.any_eq_false]
  intro a ha
  obtain ⟨j, hj, e⟩ := List.getElem_of_mem ha
  rw [h j a hj (by rw [List.getElem?_eq_getElem hj, e])]
  simp
set_option maxRecDepth 100000 in
set_option maxHeartbeats 8000000 in
theorem r1has_any (s : Sg.Sign) (uv : Value) (kind : Int) (text : ByteArray) (p : Int) (w : World) (hrd : RdS w w.heap.size 4 encValue uv s.values) (hlen : s.values.length ≤ 1000) :
    Calls Tryz.prog 71 #[.agg #[.string s.code, .int .i64 s.wide, .int .i64 s.high, .bool s.even, uv], .int .i64 kind, .string text, .int .i64 p] w (RetBB (Sg.hasB s kind text p) w) := by
  obtain ⟨A2, c2, rfl, hvc, hvm⟩ := rds_form hrd
  obtain ⟨W1, hW1⟩ : ∃ W1, W1 = w.alloc (.cells #[.string s.code, .int .i64 s.wide, .int .i64 s.high, .bool s.even, .slice A2 s.values.length c2] 67) := ⟨_, rfl⟩
  have hb1 : Below w.heap.size w W1 := by rw [hW1]; exact (Below.refl _ _).alloc (Nat.le_refl _) _
  have hX : W1.heap[w.heap.size]? = some (.cells #[.string s.code, .int .i64 s.wide, .int .i64 s.high, .bool s.even, .slice A2 s.values.length c2] 67 (0, 0)) := by rw [hW1]; exact heap_alloc_new _ _
  have x0 : W1.cell? ⟨w.heap.size, 0, none⟩ = some (.string s.code) := by simp [World.cell?, hX]
  have x1 : W1.cell? ⟨w.heap.size, 1, none⟩ = some (.int .i64 s.wide) := by simp [World.cell?, hX]
  have x2 : W1.cell? ⟨w.heap.size, 2, none⟩ = some (.int .i64 s.high) := by simp [World.cell?, hX]
  have x3 : W1.cell? ⟨w.heap.size, 3, none⟩ = some (.bool s.even) := by simp [World.cell?, hX]
  have x4 : W1.cell? ⟨w.heap.size, 4, none⟩ = some (.slice A2 s.values.length c2) := by simp [World.cell?, hX]
  have HB1 := Lib.hid hb1
  have HW1 := Lib.hid hW1
  have HIU := Lib.hid (r1InUse_any s _ p W1 ((hrd.below hb1).more hb1.size) hlen)
  have HHU := Lib.hid (Sg.has_use s kind text p)
  have hul : (Sg.useV s p).length ≤ 1000 := Nat.le_trans (List.length_filter_le _ _) hlen
  obtain ⟨q, hq⟩ : ∃ q, q = Sg.useV s p := ⟨_, rfl⟩
  rw [← hq] at HIU HHU hul
  clear hrd hW1 hb1 hX hq
  go_enter Tryz.func71, Tryz.ntmps71
  go_upto_region 1 with fail
  rw [← HW1.out]
  go_wp2_with fail
  refine HIU.out.mono ?_
  rintro e w2 ⟨v2, rfl, hown, hb2⟩
  have HB2 := Lib.hid (HB1.out.trans (hb2.mono HB1.out.size))
  have hrd2 := rds_of_own len_value hown
  have HRQ := Lib.hid hrd2
  obtain ⟨A3, c3, rfl, hl3, hm3⟩ := rds_form hrd2
  clear hb2 hown hrd2 x0 x1 x2 x3 x4
  go_wp2_with fail
  go_loopg [10] q.length (fun g i wr => ∃ k : Nat, k ≤ q.length ∧ g = q.length - k ∧ i = .int .i64 k ∧ wr = w2 ∧ ∀ j z, j < k → q[j]? = some z → Sg.sayB kind text z = false)
  case atStart => exact ⟨0, Nat.zero_le _, rfl, rfl, rfl, fun j z hj => absurd hj (Nat.not_lt_zero j)⟩
  case round =>
    obtain ⟨k, hk, rfl, rfl, hwr, hno⟩ := hrel
    subst hwr
    have HN := Lib.hid hno
    clear hno
    by_cases hlt : k < q.length
    · obtain ⟨y, hy⟩ : ∃ y, q[k]? = some y := ⟨_, List.getElem?_eq_getElem hlt⟩
      obtain ⟨bv, ov, rfl, hbv, hcv⟩ := RdX.four HRQ.out (by omega)
      obtain ⟨g0, g1, g2, g3⟩ := hcv k y hy
      have HY := Lib.hid hy
      have hkI : (0 : Int) ≤ (k : Int) := by omega
      have hkJ : (k : Int) < (q.length : Int) := by omega
      clear hcv hy g2 g3
      by_cases h1 : y.kind = kind
      case neg =>
        have i1 : (y.kind == kind) = false := by rw [beq_eq_false_iff_ne]; exact h1
        have HN2 : Hid (∀ j z, j < k + 1 → q[j]? = some z → Sg.sayB kind text z = false) := Lib.hid fun j z hj hz => by
          by_cases e : j = k
          · subst e; rw [HY.out] at hz; cases hz; simp [Sg.sayB, h1]
          · exact HN.out j z (by omega) hz
        go_wp2_with fail
        go_roundg (q.length - (k + 1))
        case measure => omega
        case rel => exact ⟨k + 1, by omega, rfl, by go_num, rfl, HN2.out⟩
      have i1 : (y.kind == kind) = true := by rw [beq_iff_eq]; exact h1
      by_cases h2 : y.text = text
      · have HT : Hid (Sg.hasB s kind text p = true) := Lib.hid (by rw [HHU.out]; exact any_atU HY.out (by simp [Sg.sayB, h1, h2]))
        clear h1
        subst h2
        go_wp2_with fail
        go_ret
        exact ⟨ret_bool HT.out.symm, HB2.out⟩
      · have ht : (y.text.toList == text.toList) = false := Lx.toList_ne h2
        have HN2 : Hid (∀ j z, j < k + 1 → q[j]? = some z → Sg.sayB kind text z = false) := Lib.hid fun j z hj hz => by
          by_cases e : j = k
          · subst e; rw [HY.out] at hz; cases hz; simp [Sg.sayB, h2]
          · exact HN.out j z (by omega) hz
        clear h1 h2
        go_wp2_with fail
        go_roundg (q.length - (k + 1))
        case measure => omega
        case rel => exact ⟨k + 1, by omega, rfl, by go_num, rfl, HN2.out⟩
    · have HF : Hid (Sg.hasB s kind text p = false) := Lib.hid (by rw [HHU.out]; exact any_noU fun j a hj ha => HN.out j a (by omega) ha)
      go_wp2_with fail
      go_ret
      exact ⟨ret_bool HF.out.symm, HB2.out⟩
end Go.Proofs.YtkmimjngmfdpmaaGreatDoor
namespace Go.Proofs.YtkmimjngmfdpmaaGreatDoor
open Go Go.RowKit

theorem info_u8 : (Tryz.prog.info? 5).map (fun i => (i.zero, i.size, i.bytes)) = some (some (.int .u8 0), 1, 1) := by kernel_rfl
theorem size_builder : (Tryz.prog.info? 106).map (·.size) = some 2 := by kernel_rfl
theorem lies_builder : liesAt Tryz.prog Tryz.prog.depth 106 (2 / Tryz.prog.cellsOf 106) 0 106 1 = true := by kernel_rfl

set_option maxRecDepth 100000 in
set_option maxHeartbeats 2000000 in
theorem copyCheck_used (b : Nat) (w : World) (h0 : w.cell? ⟨b, 0, none⟩ = some (.pointer (some ⟨b, 0, none⟩))) : Calls Tryz.prog 120 #[.pointer (some ⟨b, 0, none⟩)] w (fun e w' => e = .returned (.tuple #[]) ∧ w' = w) := by
  obtain ⟨j, hj, _⟩ := Option.map_eq_some_iff.1 size_builder
  go_enter Tryz.func120, Tryz.ntmps120
  go_wp2_with fail
  rw [Lib.run_neq_ptr_same w _ Tryz.underlying103 hj]
  go_wp2_with fail
  go_end0
  exact ⟨rfl, rfl⟩
set_option maxRecDepth 100000 in
set_option maxHeartbeats 2000000 in
theorem copyCheck_fresh (b : Nat) (w : World) (h0 : w.cell? ⟨b, 0, none⟩ = some (.pointer none)) (hsh : w.shape? b = some (106, 2)) (hfz : w.frozen? ⟨b, 0, none⟩ = false) : Calls Tryz.prog 120 #[.pointer (some ⟨b, 0, none⟩)] w (fun e w' => e = .returned (.tuple #[]) ∧ w' = w.setCell ⟨b, 0, none⟩ (.pointer (some ⟨b, 0, none⟩))) := by
  obtain ⟨j, hj, hjs⟩ := Option.map_eq_some_iff.1 size_builder
  go_enter Tryz.func120, Tryz.ntmps120
  go_wp2_with fail
  rw [Lib.run_to_unsafe w ⟨b, 0, none⟩ Tryz.underlying103 Tryz.underlying157 hj (by rw [hjs]; decide) hsh (Nat.zero_lt_succ 1)]
  simp only [Result.andThen]
  rw [Oper.upon_value]
  go_wp2_with fail
  rw [run_callFunc_extern Tryz.func145 (by kernel_rfl) (by kernel_rfl) (by kernel_rfl) (e := Extern.AbiNoEscape.same) (by kernel_rfl)]
  rw [Lib.run_noEscape]
  simp only [Result.andThen]
  rw [Oper.upon_value]
  go_wp2_with fail
  rw [Lib.run_from_unsafe w ⟨b, 0, none⟩ Tryz.underlying157 Tryz.underlying103 hj hsh lies_builder]
  simp only [Result.andThen]
  rw [Oper.upon_value]
  go_wp2_with fail
  go_end0
  exact ⟨rfl, rfl⟩
theorem copyCheck_any (B b : Nat) (bs : List Value) (w : World) (h : Lib.IsBuilder 106 5 B b bs w) :
    Calls Tryz.prog 120 #[.pointer (some ⟨b, 0, none⟩)] w (fun e w' => e = .returned (.tuple #[]) ∧ (Lib.BuilderAt 106 5 B b (.pointer (some ⟨b, 0, none⟩)) bs w' ∧ Below B w w')) := by
  rcases h with h | h
  · refine (copyCheck_fresh b w h.cell0 h.shape h.frozen0).mono ?_
    rintro e w' ⟨rfl, rfl⟩
    exact ⟨rfl, h.used _, (Below.refl B w).setCell (p := ⟨b, 0, none⟩) h.1 _⟩
  · refine (copyCheck_used b w h.cell0).mono ?_
    rintro e w' ⟨rfl, rfl⟩
    exact ⟨rfl, h, Below.refl B _⟩
theorem cells_append (l : List UInt8) (s : ByteArray) : Lib.byteCells l ++ Lib.strCells s = Lib.byteCells (l ++ s.data.toList) := by simp [Lib.byteCells, Lib.strCells]
set_option maxRecDepth 100000 in
set_option maxHeartbeats 2000000 in
theorem WriteString_any (B b : Nat) (l : List UInt8) (s : ByteArray) (w : World) (h : Lib.IsBuilder 106 5 B b (Lib.byteCells l) w) (hlen : l.length + s.size ≤ 10000000) (hBw : B ≤ w.heap.size) :
    Calls Tryz.prog 82 #[.pointer (some ⟨b, 0, none⟩), .string s] w (fun e w' => e = .returned (.tuple #[.int .i64 s.size, .nilIface]) ∧ (Lib.IsBuilder 106 5 B b (Lib.byteCells (l ++ s.data.toList)) w' ∧ Below B w w')) := by
  obtain ⟨i0, hi, hz0, hz1, hz2⟩ := info_parts info_u8
  have hbl : (Lib.byteCells l).length = l.length := by simp [Lib.byteCells]
  rw [← cells_append]
  go_enter Tryz.func82, Tryz.ntmps82
  go_wp2_with fail
  refine (copyCheck_any B b (Lib.byteCells l) _ h).mono ?_
  rintro e w1 ⟨rfl, h1, hb1⟩
  obtain ⟨hB, v, hbk, hown, hne⟩ := h1
  have c0 : w1.cell? ⟨b, 0, none⟩ = some (.pointer (some ⟨b, 0, none⟩)) := by rw [Lib.cell_of_heap hbk]; rfl
  have c1 : w1.cell? ⟨b, 1, none⟩ = some v := by rw [Lib.cell_of_heap hbk]; rfl
  have hs1 := hb1.size
  go_wp2_with (at_builtin; refine Lib.wpList_append_own_string _ rfl _ _ 104 9 rfl B 5 i0 Tryz.underlying104 Tryz.underlying9 hi hz0 hz1 hz2 _ _ _ rfl hown s rfl ?c3 ?c4 ?c5 ?_)
  case c3 => unfold maxLen; omega
  case c4 => omega
  case c5 => omega
  intro v' w2 hown' hgrow _
  have hlt : b < w1.heap.size := by
    rcases Nat.lt_or_ge b w1.heap.size with h' | h'
    · exact h'
    · simp [Array.getElem?_eq_none h'] at hbk
  have hb2 : w2.heap[b]? = some (.cells #[.pointer (some ⟨b, 0, none⟩), v] 106 (0, 0)) := by
    rw [hgrow.block b hlt (fun e => hne e.symm)]
    exact hbk
  have d0 : w2.cell? ⟨b, 0, none⟩ = some (.pointer (some ⟨b, 0, none⟩)) := by rw [Lib.cell_of_heap hb2]; rfl
  have d1 : w2.cell? ⟨b, 1, none⟩ = some v := by rw [Lib.cell_of_heap hb2]; rfl
  have f1 : w2.frozen? ⟨b, 1, none⟩ = false := Lib.frozen_of_heap hb2 1
  obtain ⟨ao, n', cap, rfl⟩ : ∃ ao n' cap, v' = .slice ao n' cap := by
    rcases hown'.2 with ⟨hv, _⟩ | ⟨g, cap, cur, hv, _⟩
    · exact ⟨_, _, _, hv⟩
    · exact ⟨_, _, _, hv⟩
  go_wp2_with fail
  go_ret2
  refine ⟨rfl, .inr ?_, ?_⟩
  · exact Lib.BuilderAt.put (T := 106) (e := 5) hB hb2 (bs' := Lib.byteCells l ++ Lib.strCells s) (by simpa [Lib.strCells_length, Lib.byteCells_length] using hown') (by decide)
  · exact (hb1.grown hgrow (by omega) (fun k hk => (hown.lt k hk).1)).setCell (p := ⟨b, 1, none⟩) hB _
end Go.Proofs.YtkmimjngmfdpmaaGreatDoor
namespace Lx
open Go
/-- the bytes of a line of words -/
def lineL (ws : List (List UInt8)) : List UInt8 := Go.Lib.join ws [32] ++ [10]
def dashB (c : ByteArray) : ByteArray := if c.data.toList = [] then ⟨#[45]⟩ else c
def wordL (e : Entry) : List (List UInt8) := [[119, 111, 114, 100], e.root.data.toList, Go.Lib.itoa e.kind, (dashB e.cls).data.toList, Go.Lib.itoa e.weight]
def endingL (e : Ending) : List (List UInt8) := [[101, 110, 100, 105, 110, 103], Go.Lib.itoa e.kind, e.text.data.toList, e.name.data.toList, Go.Lib.itoa e.weight]
def cliticL (e : Clitic) : List (List UInt8) := [[99, 108, 105, 116, 105, 99], e.text.data.toList, e.name.data.toList, Go.Lib.itoa e.weight]
def fmtL (x : Lexicon) : List UInt8 := x.entries.flatMap (fun e => lineL (wordL e)) ++ (x.endings.flatMap (fun e => lineL (endingL e)) ++ x.clitics.flatMap (fun e => lineL (cliticL e)))
def formatV (x : Lexicon) : List UInt8 := if checkV x = 0 then fmtL x else []

theorem join_length (sep : List UInt8) : ∀ ws : List (List UInt8), (Go.Lib.join ws sep).length ≤ (ws.map (·.length)).sum + ws.length * sep.length
  | [] => by simp [Go.Lib.join]
  | [a] => by simp [Go.Lib.join]
  | a :: b :: r => by
    have := join_length sep (b :: r)
    simp [Go.Lib.join] at this ⊢
    have e : (r.length + 1 + 1) * sep.length = (r.length + 1) * sep.length + sep.length := Nat.succ_mul _ _
    omega
structure Fine (x : Lexicon) : Prop where
  n0 : x.entries.length ≤ 200
  n1 : x.endings.length ≤ 40
  n2 : x.clitics.length ≤ 10
  e0 : ∀ e ∈ x.entries, Entry.ok e = true
  e1 : ∀ e ∈ x.endings, Ending.ok e = true
  e2 : ∀ e ∈ x.clitics, Clitic.ok e = true
theorem fine_of {x : Lexicon} (h : checkV x = 0) : Fine x := by
  unfold checkV at h
  split at h
  · cases h
  · rename_i h0
    split at h
    · cases h
    · rename_i h1
      split at h
      · cases h
      · rename_i h2
        split at h
        · cases h
        · rename_i h3
          simp only [Bool.not_eq_false] at h1 h2 h3
          simp only [tooMany, Bool.or_eq_true, decide_eq_true_eq, not_or] at h0
          have key : ∀ {α : Type} {ok : α → Bool} {same : α → α → Bool} {xs : List α}, good ok same xs = true → ∀ e ∈ xs, ok e = true := fun h e he => by
            obtain ⟨k, hk⟩ := List.mem_iff_getElem?.1 he
            exact good_at h hk
          exact ⟨by omega, by omega, by omega, key h1, key h2, key h3⟩
theorem sounds_size {s : ByteArray} {m : Int} (h : soundsB s m = true) : 1 ≤ s.size ∧ (s.size : Int) ≤ m := by simp [soundsB] at h; exact ⟨h.1.1, h.1.2⟩
theorem name_size {s : ByteArray} (h : nameB s = true) : 1 ≤ s.size ∧ s.size ≤ 8 := by simp [nameB] at h; exact ⟨h.1.1, h.1.2⟩
theorem within_of {n lo hi : Int} (h : withinB n lo hi = true) : lo ≤ n ∧ n ≤ hi := by simpa [withinB] using h
structure Entry.Fine (e : Entry) : Prop where
  r : 1 ≤ e.root.size ∧ e.root.size ≤ 8
  k : 1 ≤ e.kind ∧ e.kind ≤ 9
  c : e.cls.size ≤ 8
  w : 0 ≤ e.weight ∧ e.weight ≤ 1000
structure Ending.Fine (e : Ending) : Prop where
  k : 1 ≤ e.kind ∧ e.kind ≤ 9
  t : 1 ≤ e.text.size ∧ e.text.size ≤ 4
  n : 1 ≤ e.name.size ∧ e.name.size ≤ 8
  w : 0 ≤ e.weight ∧ e.weight ≤ 1000
structure Clitic.Fine (e : Clitic) : Prop where
  t : 1 ≤ e.text.size ∧ e.text.size ≤ 4
  n : 1 ≤ e.name.size ∧ e.name.size ≤ 8
  w : 0 ≤ e.weight ∧ e.weight ≤ 1000
theorem Entry.fine {e : Entry} (h : Entry.ok e = true) : Entry.Fine e := by
  simp only [Entry.ok, Bool.and_eq_true, Bool.or_eq_true] at h
  obtain ⟨⟨⟨h1, h2⟩, h3⟩, h4⟩ := h
  have s := sounds_size h1
  refine ⟨by omega, within_of h2, ?_, within_of h4⟩
  rcases h3 with h3 | h3
  · have : e.cls.size = 0 := by
      have h5 := List.isEmpty_iff.1 h3
      rw [Go.Lib.toList_data] at h5
      have h6 : e.cls.data.toList.length = e.cls.size := rfl
      rw [h5] at h6
      exact h6.symm
    omega
  · exact (name_size h3).2
theorem Ending.fine {e : Ending} (h : Ending.ok e = true) : Ending.Fine e := by
  simp only [Ending.ok, Bool.and_eq_true] at h
  obtain ⟨⟨⟨h1, h2⟩, h3⟩, h4⟩ := h
  have s := sounds_size h2
  exact ⟨within_of h1, by omega, name_size h3, within_of h4⟩
theorem Clitic.fine {e : Clitic} (h : Clitic.ok e = true) : Clitic.Fine e := by
  simp only [Clitic.ok, Bool.and_eq_true] at h
  obtain ⟨⟨h1, h2⟩, h3⟩ := h
  have s := sounds_size h1
  exact ⟨by omega, name_size h2, within_of h3⟩
theorem itoa_len {n : Int} (h : 0 ≤ n ∧ n ≤ 1000) : (Go.Lib.itoa n).length ≤ 21 := Go.Lib.itoa_length_le n (by omega) (by omega)
theorem line_len {ws : List (List UInt8)} (h : ∀ w ∈ ws, w.length ≤ 21) (hn : ws.length ≤ 5) : (lineL ws).length ≤ 120 := by
  have h1 := join_length [32] ws
  have h2 : (ws.map (·.length)).sum ≤ ws.length * 21 := by
    clear hn h1
    induction ws with
    | nil => simp
    | cons a r ih =>
      have := ih fun w hw => h w (by simp [hw])
      have h3 := h a (by simp)
      simp only [List.map_cons, List.sum_cons, List.length_cons]
      omega
  unfold lineL
  rw [List.length_append]
  simp only [List.length_singleton] at h1 ⊢
  omega
theorem dash_len (c : ByteArray) (h : c.size ≤ 8) : (dashB c).data.toList.length ≤ 8 := by
  unfold dashB
  split
  · show 1 ≤ 8; omega
  · exact h
theorem word_len {e : Entry} (h : Entry.Fine e) : (lineL (wordL e)).length ≤ 120 := line_len (by
  intro w hw
  simp only [wordL, List.mem_cons, List.not_mem_nil, or_false] at hw
  have h1 := dash_len e.cls h.c
  have h2 := itoa_len (n := e.kind) ⟨by have := h.k; omega, by have := h.k; omega⟩
  have h3 := itoa_len h.w
  have h4 : e.root.data.toList.length = e.root.size := rfl
  have h5 := h.r
  rcases hw with rfl | rfl | rfl | rfl | rfl <;> first | (simp; done) | omega) (by simp [wordL])
theorem ending_len {e : Ending} (h : Ending.Fine e) : (lineL (endingL e)).length ≤ 120 := line_len (by
  intro w hw
  simp only [endingL, List.mem_cons, List.not_mem_nil, or_false] at hw
  have h2 := itoa_len (n := e.kind) ⟨by have := h.k; omega, by have := h.k; omega⟩
  have h3 := itoa_len h.w
  have h4 : e.text.data.toList.length = e.text.size := rfl
  have h5 := h.t
  have h6 : e.name.data.toList.length = e.name.size := rfl
  have h7 := h.n
  rcases hw with rfl | rfl | rfl | rfl | rfl <;> first | (simp; done) | omega) (by simp [endingL])
theorem clitic_len {e : Clitic} (h : Clitic.Fine e) : (lineL (cliticL e)).length ≤ 120 := line_len (by
  intro w hw
  simp only [cliticL, List.mem_cons, List.not_mem_nil, or_false] at hw
  have h3 := itoa_len h.w
  have h4 : e.text.data.toList.length = e.text.size := rfl
  have h5 := h.t
  have h6 : e.name.data.toList.length = e.name.size := rfl
  have h7 := h.n
  rcases hw with rfl | rfl | rfl | rfl <;> first | (simp; done) | omega) (by simp [cliticL])
theorem flat_len {α : Type} {f : α → List UInt8} : ∀ {l : List α}, (∀ a ∈ l, (f a).length ≤ 120) → (l.flatMap f).length ≤ l.length * 120
  | [], _ => by simp
  | a :: r, h => by
    have h1 := flat_len (l := r) fun b hb => h b (by simp [hb])
    have h2 := h a (by simp)
    simp only [List.flatMap_cons, List.length_append, List.length_cons]
    omega
theorem flat_take {α : Type} {f : α → List UInt8} {l : List α} {k : Nat} {a : α} (h : l[k]? = some a) : (l.take (k + 1)).flatMap f = (l.take k).flatMap f ++ f a := by
  obtain ⟨hk, rfl⟩ := List.getElem?_eq_some_iff.1 h
  rw [List.take_succ_eq_append_getElem hk, List.flatMap_append, List.flatMap_singleton]
theorem flat_take_len {α : Type} {f : α → List UInt8} {l : List α} (k : Nat) (h : ∀ a ∈ l, (f a).length ≤ 120) : ((l.take k).flatMap f).length ≤ l.length * 120 := by
  have h1 := flat_len (f := f) (l := l.take k) fun a ha => h a (List.mem_of_mem_take ha)
  have h2 : (l.take k).length ≤ l.length := by rw [List.length_take]; omega
  omega
end Lx
namespace Go.Proofs.YtkmimjngmfdpmaaGreatDoor
open Go Go.RowKit

theorem dig_extract (d : Nat) (h : d < 10) : (⟨#[48, 49, 50, 51, 52, 53, 54, 55, 56, 57]⟩ : ByteArray).extract d (d + 1) = ⟨#[UInt8.ofNat (48 + d)]⟩ := by
  have : d = 0 ∨ d = 1 ∨ d = 2 ∨ d = 3 ∨ d = 4 ∨ d = 5 ∨ d = 6 ∨ d = 7 ∨ d = 8 ∨ d = 9 := by omega
  rcases this with rfl | rfl | rfl | rfl | rfl | rfl | rfl | rfl | rfl | rfl <;> rfl
theorem app_dig (l : List UInt8) (b : UInt8) : (⟨l.toArray⟩ : ByteArray) ++ (⟨#[b]⟩ : ByteArray) = ⟨(l ++ [b]).toArray⟩ := by
  have e : ((⟨l.toArray⟩ : ByteArray) ++ (⟨#[b]⟩ : ByteArray)).data = (l ++ [b]).toArray := by
    rw [ByteArray.data_append]
    simp
  exact congrArg ByteArray.mk e
set_option maxRecDepth 100000 in
set_option maxHeartbeats 2000000 in
theorem r1Dec_all (N : Nat) : ∀ (n : Nat), n ≤ N → n ≤ 1000000 → ∀ w : World, Calls Tryz.prog 55 #[.int .i64 (n : Int)] w (fun e w' => e = .returned (.string ⟨(Lib.decDigits n).toArray⟩) ∧ w' = w) := by
  induction N with
  | zero =>
    intro n h1 h2 w
    obtain rfl : n = 0 := by omega
    go_enter Tryz.func55, Tryz.ntmps55
    go_wp2_with fail
    go_ret
    exact ⟨by kernel_rfl, rfl⟩
  | succ N ih =>
    intro n h1 h2 w
    obtain ⟨d, hd⟩ : ∃ d, d = n % 10 := ⟨_, rfl⟩
    obtain ⟨q, hq⟩ : ∃ q, q = n / 10 := ⟨_, rfl⟩
    have hd10 : d < 10 := by omega
    have hrem : ((n : Int)).tmod 10 = (d : Int) := by rw [hd]; exact (Int.ofNat_tmod n 10).symm
    have hquo : ((n : Int)).tdiv 10 = (q : Int) := by rw [hq]; exact (Int.ofNat_tdiv n 10).symm
    have HX := Lib.hid (dig_extract d hd10)
    by_cases hlt : n < 10
    · have HD : Hid (Lib.decDigits n = [UInt8.ofNat (48 + d)]) := Lib.hid (by rw [Lib.decDigits_one hlt]; have : d = n := by omega
                                                                              rw [this])
      clear hd hq
      go_enter Tryz.func55, Tryz.ntmps55
      go_wp2_with fail
      go_ret
      exact ⟨ret_str (by rw [HX.out, HD.out]), rfl⟩
    · have HD : Hid (Lib.decDigits n = Lib.decDigits q ++ [UInt8.ofNat (48 + d)]) := Lib.hid (by rw [Lib.decDigits, dif_neg hlt, hd, hq])
      have hqL : (Lib.decDigits q).length ≤ 21 := by have := Lib.itoa_length_le (q : Int) (by omega) (by omega); rwa [Lib.itoa, if_neg (by omega), Int.toNat_natCast] at this
      have hw64 : wrap64 (q : Int) = (q : Int) := by first | exact wrap64_of (by omega) (by omega) | (simp (disch := omega) only [IntWalk.i64_in]) | (unfold wrap64; omega)
      have HI := Lib.hid (ih q (by omega) (by omega))
      clear hd hq ih
      go_enter Tryz.func55, Tryz.ntmps55
      go_wp2_with fail
      rw [hw64]
      refine (HI.out _).mono ?_
      rintro e w1 ⟨rfl, rfl⟩
      go_wp2_with fail
      go_ret
      exact ⟨ret_str (by rw [HX.out, HD.out, app_dig]), rfl⟩
theorem r1Dec_any (n : Int) (hn : 0 ≤ n ∧ n ≤ 1000) (w : World) : Calls Tryz.prog 55 #[.int .i64 n] w (fun e w' => e = .returned (.string ⟨(Lib.itoa n).toArray⟩) ∧ w' = w) := by
  obtain ⟨k, rfl⟩ := Int.eq_ofNat_of_zero_le hn.1
  rw [Lib.itoa, if_neg (by omega), Int.toNat_natCast]
  exact r1Dec_all k k (Nat.le_refl _) (by omega) w
end Go.Proofs.YtkmimjngmfdpmaaGreatDoor
