/- ostraconref01.InUse, has, Bearers; signs.Bearers. strings.Builder: copyCheck and WriteString, as this program's text has them. What a lexicon is as text: plain notions. ostraconref01.Decimal.; ostraconlaw05.Big; ostraconref05.Same of equal lexicons. Made by gen_big.py. slices.Equal of the lexicon's rows; lexicon.Same; ostraconref05.Same. -/
import Derived.Test.YtkmimjngmfdpmaaGreatDoorMpSgRCheck
import Derived.Test.YtkmimjngmfdpmaaGreatDoorMpSgBear
import Derived.Test.YtkmimjngmfdpmaaGreatDoorMpSgAfter
import Derived.Test.YtkmimjngmfdpmaaGreatDoorMpTrimPlain
import Derived.Lib.Builder
import Derived.Lib.AppendStr
import Derived.Test.YtkmimjngmfdpmaaGreatDoorMpTextPlain
import Derived.Lib.ItoaLen
import Derived.Shelf.Strings.OnBuilder
import Derived.Shelf.Strconv.Itoa3
import Derived.Test.YtkmimjngmfdpmaaGreatDoorMpBegin
import Derived.Test.YtkmimjngmfdpmaaGreatDoorMpSounds
import Derived.Test.YtkmimjngmfdpmaaGreatDoorMpLeaf
import Derived.BigQuiet
namespace Go.Proofs.YtkmimjngmfdpmaaGreatDoor
open Go Go.RowKit

def RetVals (q : List Sg.Value) (w : World) (e : Ending) (w' : World) : Prop := ∃ v, e = .returned v ∧ w'.ownsRow w.heap.size 60 4 v q.length (q.flatMap encValue) ∧ Below w.heap.size w w'
theorem filt_yes {α : Type} {p : α → Bool} {l : List α} {k : Nat} {a : α} (h : l[k]? = some a) (hp : p a = true) : (l.take (k + 1)).filter p = (l.take k).filter p ++ [a] := by
  rw [List.take_add_one, h, List.filter_append]
  simp [hp]
theorem filt_no {α : Type} {p : α → Bool} {l : List α} {k : Nat} {a : α} (h : l[k]? = some a) (hp : p a = false) : (l.take (k + 1)).filter p = (l.take k).filter p := by
  rw [List.take_add_one, h, List.filter_append]
  simp [hp]
set_option maxRecDepth 100000 in
set_option maxHeartbeats 8000000 in
theorem r1InUse_any (s : Sg.Sign) (uv : Value) (p : Int) (w : World) (hrd : RdS w w.heap.size 4 encValue uv s.values) (hlen : s.values.length ≤ 1000) :
    Calls Tryz.prog 46 #[.agg #[.string s.code, .int .i64 s.wide, .int .i64 s.high, .bool s.even, uv], .int .i64 p] w (RetVals (Sg.useV s p) w) := by
  obtain ⟨A2, c2, rfl, hvc, hvm⟩ := rds_form hrd
  have HRV := Lib.hid hrd
  obtain ⟨i1, hi1, hz1, hs1', hb1'⟩ := info_parts info_Value
  obtain ⟨W1, hW1⟩ : ∃ W1, W1 = w.alloc (.cells #[.string s.code, .int .i64 s.wide, .int .i64 s.high, .bool s.even, .slice A2 s.values.length c2] 67) := ⟨_, rfl⟩
  have hb1 : Below w.heap.size w W1 := by rw [hW1]; exact (Below.refl _ _).alloc (Nat.le_refl _) _
  have hX : W1.heap[w.heap.size]? = some (.cells #[.string s.code, .int .i64 s.wide, .int .i64 s.high, .bool s.even, .slice A2 s.values.length c2] 67 (0, 0)) := by rw [hW1]; exact heap_alloc_new _ _
  have hs1 : w.heap.size < W1.heap.size := (Array.getElem?_eq_some_iff.1 hX).1
  have HB1 := Lib.hid hb1
  have HW1 := Lib.hid hW1
  have HX1 := Lib.hid hX
  clear hrd hW1 hb1 hX
  go_enter Tryz.func46, Tryz.ntmps46
  go_upto_region 1 with fail
  rw [← HW1.out]
  go_wp2_with fail
  go_loopg [5, 6] s.values.length (fun g vv i wr => ∃ (k : Nat) (q : List Sg.Value), k ≤ s.values.length ∧ g = s.values.length - k ∧ i = .int .i64 k ∧ Below W1.heap.size W1 wr ∧ wr.ownsRow W1.heap.size 60 4 vv q.length (q.flatMap encValue) ∧ q = (s.values.take k).filter (Sg.inUseB · p))
  case atStart => exact ⟨0, [], Nat.zero_le _, rfl, rfl, Below.refl _ _, World.ownsRow_nil _ _ _ _, rfl⟩
  case round =>
    obtain ⟨k, q, hk, rfl, rfl, hbel, hown, hq⟩ := hrel
    obtain ⟨Av, cv, rfl⟩ := own_form hown
    have HBK := Lib.hid hbel
    have HOK := Lib.hid hown
    have HQ := Lib.hid hq
    have hszr := hbel.size
    have hql : q.length ≤ k := by rw [hq]; exact Nat.le_trans (List.length_filter_le _ _) (List.length_take_le _ _)
    have HBW : Hid (Below w.heap.size w wr) := Lib.hid (HB1.out.trans (hbel.mono (by omega)))
    have hxx := (hbel.block _ hs1).trans HX1.out
    have x4 : wr.cell? ⟨w.heap.size, 4, none⟩ = some (.slice A2 s.values.length c2) := by simp [World.cell?, hxx]
    clear hbel hown hq hxx
    by_cases hlt : k < s.values.length
    · obtain ⟨y, hy⟩ : ∃ y, s.values[k]? = some y := ⟨_, List.getElem?_eq_getElem hlt⟩
      obtain ⟨bv, ov, rfl, hbv, hcv⟩ := RdX.four HRV.out (by omega)
      obtain ⟨g0, g1, g2, g3⟩ := hcv k y hy
      have f0 := (HBW.out.cell (p := ⟨bv, ov + k * 4, none⟩) hbv).trans g0
      have f1 := (HBW.out.cell (p := ⟨bv, ov + k * 4 + 1, none⟩) hbv).trans g1
      have f2 := (HBW.out.cell (p := ⟨bv, ov + k * 4 + 2, none⟩) hbv).trans g2
      have f3 := (HBW.out.cell (p := ⟨bv, ov + k * 4 + 3, none⟩) hbv).trans g3
      have HY := Lib.hid hy
      have hkI : (0 : Int) ≤ (k : Int) := by omega
      have hkJ : (k : Int) < (s.values.length : Int) := by omega
      clear hcv hy g0 g1 g2 g3
      by_cases h1 : y.lo ≤ p
      case neg =>
        have HNX : Hid ((s.values.take (k + 1)).filter (Sg.inUseB · p) = (s.values.take k).filter (Sg.inUseB · p)) := Lib.hid (filt_no HY.out (by simp [Sg.inUseB, h1]))
        go_wp2_with fail
        go_roundg (s.values.length - (k + 1))
        case measure => omega
        case rel => exact ⟨k + 1, q, by omega, rfl, by go_num, HBK.out, HOK.out, by rw [HNX.out]; exact HQ.out⟩
      by_cases h2 : p ≤ y.hi
      case neg =>
        have HNX : Hid ((s.values.take (k + 1)).filter (Sg.inUseB · p) = (s.values.take k).filter (Sg.inUseB · p)) := Lib.hid (filt_no HY.out (by simp [Sg.inUseB, h2]))
        go_wp2_with fail
        go_roundg (s.values.length - (k + 1))
        case measure => omega
        case rel => exact ⟨k + 1, q, by omega, rfl, by go_num, HBK.out, HOK.out, by rw [HNX.out]; exact HQ.out⟩
      have HNX : Hid ((s.values.take (k + 1)).filter (Sg.inUseB · p) = (s.values.take k).filter (Sg.inUseB · p) ++ [y]) := Lib.hid (filt_yes HY.out (by simp [Sg.inUseB, h1, h2]))
      have HOS : Hid ((wr.alloc (.cells #[.int .i64 y.kind, .string y.text, .int .i64 y.lo, .int .i64 y.hi] 60)).ownsRow W1.heap.size 60 4 (.slice Av q.length cv) q.length (q.flatMap encValue)) := Lib.hid (keep_own HOK.out ((Below.refl _ _).alloc (Nat.le_refl _) _))
      have HRD := Lib.hid (rd_one_value wr y)
      have hk1 : q.length + 1 ≤ maxLen := by simp only [maxLen]; omega
      have hk2 : (q.length + 1) * 40 ≤ 140737488355328 := by omega
      have hbase : W1.heap.size ≤ (wr.alloc (.cells #[.int .i64 y.kind, .string y.text, .int .i64 y.lo, .int .i64 y.hi] 60)).heap.size := by simp; omega
      go_wp2_with (at_builtin; go_must (refine wpList_append_rd (enc := encValue) rfl (.tmp 32) (.tmp 38) _ rfl W1.heap.size 60 i1 _ 4 40 len_value one_value Tryz.underlying47 hi1 hz1 hs1' hb1' rfl (by decide) (.slice Av q.length cv) q.length (q.flatMap encValue) rfl HOS.out _ (.slice (some ⟨wr.heap.size, 0, none⟩) 1 1) [y] rfl HRD.out hk1 hk2 hbase ?_))
      intro v8 w8 hown8 hg8 hat8
      have HB8 : Hid (Below W1.heap.size W1 w8) := Lib.hid ((HBK.out.alloc (by omega) _).grown hg8 (by simp; omega) (fun q hq => (HOS.out.lt q hq).1))
      have HO8 := Lib.hid (own_value hown8)
      clear hown8 hg8 hat8
      go_wp2_with fail
      go_roundg (s.values.length - (k + 1))
      case measure => omega
      case rel => exact ⟨k + 1, q ++ [y], by omega, rfl, by go_num, HB8.out, HO8.out, by rw [HNX.out, ← HQ.out]⟩
    · have HE : Hid (q = Sg.useV s p) := Lib.hid (by rw [HQ.out, List.take_of_length_le (by omega)]; rfl)
      go_wp2_with fail
      go_ret
      exact ⟨_, rfl, by rw [← HE.out]; exact HOK.out.mono (by omega), HBW.out⟩
end Go.Proofs.YtkmimjngmfdpmaaGreatDoor
namespace Go.Proofs.YtkmimjngmfdpmaaGreatDoor
open Go Go.RowKit


end Go.Proofs.YtkmimjngmfdpmaaGreatDoor
namespace Lx
open Go

theorem flat_len {α : Type} {f : α → List UInt8} : ∀ {l : List α}, (∀ a ∈ l, (f a).length ≤ 120) → (l.flatMap f).length ≤ l.length * 120
  | [], _ => by simp
  | a :: r, h => by
    have h1 := flat_len (l := r) fun b hb => h b (by simp [hb])
    have h2 := h a (by simp)
    simp only [List.flatMap_cons, List.length_append, List.length_cons]
    omega
end Lx
namespace Go.Proofs.YtkmimjngmfdpmaaGreatDoor
open Go Go.RowKit

end Go.Proofs.YtkmimjngmfdpmaaGreatDoor
namespace Go.Proofs.YtkmimjngmfdpmaaGreatDoor
open Go.RowKit




end Go.Proofs.YtkmimjngmfdpmaaGreatDoor
namespace Go.Proofs.YtkmimjngmfdpmaaGreatDoor
open Go Go.RowKit

/-- a truth value that says p -/
def RetEq (p : Prop) (w : World) (e : Ending) (w' : World) : Prop := ∃ q : Bool, e = .returned (.bool q) ∧ (q = true ↔ p) ∧ Below w.heap.size w w'
theorem RetEq.no {p : Prop} {w w' : World} (h : ¬ p) (hb : Below w.heap.size w w') : RetEq p w (.returned (.bool false)) w' := ⟨false, rfl, by simp [h], hb⟩
theorem RetEq.yes {p : Prop} {w w' : World} (h : p) (hb : Below w.heap.size w w') : RetEq p w (.returned (.bool true)) w' := ⟨true, rfl, by simp [h], hb⟩
theorem row_ne {α : Type} {xs ys : List α} {k : Nat} {e f : α} (he : xs[k]? = some e) (hf : ys[k]? = some f) (h : e ≠ f) : xs ≠ ys := by
  rintro rfl
  rw [he] at hf
  exact h (Option.some.inj hf)
theorem row_take {α : Type} {xs ys : List α} {k : Nat} {e : α} (he : xs[k]? = some e) (hf : ys[k]? = some e) (h : xs.take k = ys.take k) : xs.take (k + 1) = ys.take (k + 1) := by
  obtain ⟨h1, h2⟩ := List.getElem?_eq_some_iff.1 he
  obtain ⟨h3, h4⟩ := List.getElem?_eq_some_iff.1 hf
  rw [List.take_succ_eq_append_getElem h1, List.take_succ_eq_append_getElem h3, h, h2, h4]
theorem row_all {α : Type} {xs ys : List α} {k : Nat} (h : xs.take k = ys.take k) (h1 : xs.length ≤ k) (h2 : ys.length ≤ k) : xs = ys := by
  rwa [List.take_of_length_le h1, List.take_of_length_le h2] at h





end Go.Proofs.YtkmimjngmfdpmaaGreatDoor
