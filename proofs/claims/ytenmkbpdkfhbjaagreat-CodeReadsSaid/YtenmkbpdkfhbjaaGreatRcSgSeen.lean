/- signs.checkValue: its closure.; slices.IndexFunc, slices.ContainsFunc over values. Made by gen_sgclos.py.; signs.checkValue.; signs.Check's map of the codes that were seen. -/
import Derived.Test.YtenmkbpdkfhbjaaGreatRcSgMeet
import Derived.Test.YtenmkbpdkfhbjaaGreatRcShelf
import Derived.Test.YtenmkbpdkfhbjaaGreatRcFmtPlain
import Derived.Maps.OwnOps
import Derived.Maps.Views
namespace Go.Proofs.YtenmkbpdkfhbjaaGreat
open Go Go.RowKit

set_option maxRecDepth 100000 in
set_option maxHeartbeats 2000000 in
theorem gCheckValue1_any (v y : Sg.Value) (cb : Nat) (w : World) (hcb : cb < w.heap.size) (h0 : w.cell? ⟨cb, 0, none⟩ = some (.int .i64 v.kind)) (h1 : w.cell? ⟨cb, 1, none⟩ = some (.string v.text)) (h2 : w.cell? ⟨cb, 2, none⟩ = some (.int .i64 v.lo)) (h3 : w.cell? ⟨cb, 3, none⟩ = some (.int .i64 v.hi)) :
  Calls Tryz.prog 84 #[.agg #[.int .i64 y.kind, .string y.text, .int .i64 y.lo, .int .i64 y.hi], .pointer (some ⟨cb, 0, none⟩)] w (RetBB (Sg.meetB v y) w) := by
 have HB : Hid (Below w.heap.size w (w.alloc (.cells #[.int .i64 y.kind, .string y.text, .int .i64 y.lo, .int .i64 y.hi] 103))) := Lib.hid ((Below.refl _ _).alloc (Nat.le_refl _) _)
 go_enter Tryz.func84, Tryz.ntmps84
 go_wp2_with fail
 refine (gMeet_any v y _).mono ?_
 rintro e w1 ⟨rfl, hb⟩
 have HB1 := Lib.hid (HB.out.trans (hb.mono (by simp)))
 clear hb
 go_wp2_with fail
 go_ret
 exact ⟨rfl, HB1.out⟩
end Go.Proofs.YtenmkbpdkfhbjaaGreat
namespace Go.Proofs.YtenmkbpdkfhbjaaGreat
open Go Go.RowKit

set_option maxHeartbeats 400000 in
theorem indexValue_gCheckValue1 (cap : Value) (p : Sg.Value → Bool) (xs : List Sg.Value) (v : Value) (w : World) (hv : RdS w w.heap.size 4 encValue v xs)
  (hcall : ∀ (w' : World) (y : Sg.Value), y ∈ xs → Below w.heap.size w w' → Calls Tryz.prog 84 #[.agg #[.int .i64 y.kind, .string y.text, .int .i64 y.lo, .int .i64 y.hi], cap] w' (RetBB (p y) w')) :
  Calls Tryz.prog 105 #[v, .func (.func 84) #[] #[cap]] w (RetIB (idxOf p xs) w) := by
 obtain ⟨A0, c0, rfl, hl0, hm0, hc0⟩ := hv
 have hn0 : xs.length ≤ 9223372036854775807 := by omega
 have HC := Lib.hid hc0
 have HF := Lib.hid hcall
 clear hc0 hcall hm0
 go_enter Tryz.func105, Tryz.ntmps105
 go_wp2_with fail
 go_loopg [8] xs.length (fun g i wr => ∃ k : Nat, k ≤ xs.length ∧ g = xs.length - k ∧ i = .int .i64 k ∧ Below w.heap.size w wr ∧ ∀ j z, j < k → xs[j]? = some z → p z = false)
 case atStart => exact ⟨0, Nat.zero_le _, rfl, rfl, Below.refl _ _, fun j _ hj => absurd hj (Nat.not_lt_zero j)⟩
 case round =>
  obtain ⟨k, hk, rfl, rfl, hbel, hno⟩ := hrel
  have HB := Lib.hid hbel
  have HN := Lib.hid hno
  clear hbel hno
  by_cases hlt : k < xs.length
  ·obtain ⟨b, off, rfl, hb, hcell⟩ := HC.out (by omega)
   obtain ⟨e, he⟩ : ∃ e, xs[k]? = some e := ⟨_, List.getElem?_eq_getElem hlt⟩
   have f0 : wr.cell? ⟨b, off + k * 4, none⟩ = some (.int .i64 e.kind) := (HB.out.cell hb).trans (hcell k e he 0 _ rfl)
   have f1 : wr.cell? ⟨b, off + k * 4 + 1, none⟩ = some (.string e.text) := (HB.out.cell hb).trans (hcell k e he 1 _ rfl)
   have f2 : wr.cell? ⟨b, off + k * 4 + 2, none⟩ = some (.int .i64 e.lo) := (HB.out.cell hb).trans (hcell k e he 2 _ rfl)
   have f3 : wr.cell? ⟨b, off + k * 4 + 3, none⟩ = some (.int .i64 e.hi) := (HB.out.cell hb).trans (hcell k e he 3 _ rfl)
   have HE := Lib.hid he
   clear he hcell
   go_wp2_with fail
   refine (HF.out wr e (List.mem_of_getElem? HE.out) HB.out).mono ?_
   cases hp : p e
   ·have HN2 : Hid (∀ j z, j < k + 1 → xs[j]? = some z → p z = false) := by
     refine Lib.hid (fun j z hj hz => ?_)
     by_cases hjk : j = k
     ·subst hjk; rw [HE.out] at hz; cases hz; exact hp
     ·exact HN.out j z (by omega) hz
    clear hp
    rintro e1 w1 ⟨rfl, hb1⟩
    have HB1 := Lib.hid hb1
    clear hb1
    go_wp2_with fail
    go_roundg (xs.length - (k + 1))
    case measure => omega
    case rel => exact ⟨k + 1, by omega, rfl, by go_num, HB.out.trans (HB1.out.mono HB.out.size), HN2.out⟩
   ·have HI := Lib.hid (idxOf_at HE.out hp HN.out)
    clear hp
    rintro e1 w1 ⟨rfl, hb1⟩
    have HB1 := Lib.hid hb1
    clear hb1
    go_wp2_with fail
    go_ret
    exact ⟨ret_int HI.out.symm, HB.out.trans (HB1.out.mono HB.out.size)⟩
  ·have HI := Lib.hid (idxOf_none (p := p) (xs := xs) fun j z hj hz => HN.out j z (by omega) hz)
   go_wp2_with fail
   go_ret
   exact ⟨ret_int HI.out.symm, HB.out⟩
theorem containsValue_gCheckValue1 (cap : Value) (p : Sg.Value → Bool) (xs : List Sg.Value) (v : Value) (w : World) (hv : RdS w w.heap.size 4 encValue v xs)
  (hcall : ∀ (w' : World) (y : Sg.Value), y ∈ xs → Below w.heap.size w w' → Calls Tryz.prog 84 #[.agg #[.int .i64 y.kind, .string y.text, .int .i64 y.lo, .int .i64 y.hi], cap] w' (RetBB (p y) w')) :
  Calls Tryz.prog 83 #[v, .func (.func 84) #[] #[cap]] w (RetBB (xs.any p) w) := by
 have HI := Lib.hid (indexValue_gCheckValue1 cap p xs v w hv hcall)
 have HG := Lib.hid (idxOf_ge p xs)
 clear hcall
 obtain ⟨A0, c0, rfl, -⟩ := hv
 go_enter Tryz.func83, Tryz.ntmps83
 go_wp2_with fail
 refine HI.out.mono ?_
 rintro e1 w1 ⟨rfl, hb1⟩
 have HB1 := Lib.hid hb1
 clear hb1
 go_wp2_with fail
 go_ret
 exact ⟨ret_bool HG.out, HB1.out⟩



end Go.Proofs.YtenmkbpdkfhbjaaGreat
namespace Go.Proofs.YtenmkbpdkfhbjaaGreat
open Go Go.RowKit

set_option maxRecDepth 100000 in
set_option maxHeartbeats 4000000 in
theorem gCheckValue_any (p : Int) (A : Option Addr) (n c : Nat) (bv : Value) (before : List Sg.Value) (v : Sg.Value) (w : World) (hb : RdS w w.heap.size 4 encValue bv before) (hv : v.text.size ≤ maxLen) :
  Calls Tryz.prog 59 #[.agg #[.int .i64 p, .slice A n c], bv, .agg #[.int .i64 v.kind, .string v.text, .int .i64 v.lo, .int .i64 v.hi]] w (RetIB (Sg.valueV p before v) w) := by
 have HBV := Lib.hid hb
 obtain ⟨A0, c0, rfl, -⟩ := hb
 obtain ⟨wA, hwA⟩ : ∃ wA, wA = (w.alloc (.cells #[.int .i64 p, .slice A n c] 24)).alloc (.cells #[.int .i64 v.kind, .string v.text, .int .i64 v.lo, .int .i64 v.hi] 103) := ⟨_, rfl⟩
 have hba : Below w.heap.size w wA := by rw [hwA]; exact ((Below.refl _ _).alloc (Nat.le_refl _) _).alloc (by simp) _
 have hsa : w.heap.size + 1 < wA.heap.size := by rw [hwA]; simp
 have hX : wA.heap[w.heap.size]? = some (.cells #[.int .i64 p, .slice A n c] 24 (0, 0)) := by rw [hwA]; exact start_fst w _ _
 have hY : wA.heap[w.heap.size + 1]? = some (.cells #[.int .i64 v.kind, .string v.text, .int .i64 v.lo, .int .i64 v.hi] 103 (0, 0)) := by rw [hwA]; exact start_res' w _ _
 have CV : Hid (∀ W, Below wA.heap.size wA W → W.cell? ⟨w.heap.size + 1, 0, none⟩ = some (.int .i64 v.kind) ∧ W.cell? ⟨w.heap.size + 1, 1, none⟩ = some (.string v.text) ∧ W.cell? ⟨w.heap.size + 1, 2, none⟩ = some (.int .i64 v.lo) ∧ W.cell? ⟨w.heap.size + 1, 3, none⟩ = some (.int .i64 v.hi)) := Lib.hid fun W hW => by
  have r := (hW.block (w.heap.size + 1) (by omega)).trans hY
  exact ⟨by simp [World.cell?, r], by simp [World.cell?, r], by simp [World.cell?, r], by simp [World.cell?, r]⟩
 have p0 : wA.cell? ⟨w.heap.size, 0, none⟩ = some (.int .i64 p) := by simp [World.cell?, hX]
 obtain ⟨q0, q1, q2, q3⟩ := CV.out wA (Below.refl _ _)
 have HBA := Lib.hid hba
 have HWA := Lib.hid hwA
 have HCN := Lib.hid (containsValue_gCheckValue1 (.pointer (some ⟨w.heap.size + 1, 0, none⟩)) (Sg.meetB v) before _ wA ((HBV.out.below hba).more hba.size) (fun w' y _ hw => by
  obtain ⟨r0, r1, r2, r3⟩ := CV.out w' hw
  exact gCheckValue1_any v y (w.heap.size + 1) w' (by have := hw.size; omega) r0 r1 r2 r3))
 clear hba hX hY hwA
 by_cases hk : 1 ≤ v.kind ∧ v.kind ≤ 3
 ·obtain ⟨hk1, hk2⟩ := hk
  have hk1' : ¬ v.kind < 1 := by omega
  have hk2' : ¬ 3 < v.kind := by omega
  cases ht : Sg.textB v.kind v.text
  ·have HV : Hid (Sg.valueV p before v = 12) := Lib.hid (by unfold Sg.valueV; rw [if_pos (.inr (.inr ht))])
   have HT := Lib.hid ht
   clear ht
   go_enter Tryz.func59, Tryz.ntmps59
   go_upto_region 1 with fail
   rw [← HWA.out]
   go_wp2_with fail
   refine (gText_any v.kind v.text _ hv).mono ?_
   rw [HT.out]
   rintro e w1 ⟨rfl, rfl⟩
   go_wp2_with fail
   go_ret
   exact ⟨ret_int HV.out.symm, HBA.out⟩
  ·have HT := Lib.hid ht
   by_cases hp : 1 ≤ v.lo ∧ v.lo ≤ v.hi ∧ v.hi ≤ p
   ·obtain ⟨e1, e2, e3⟩ := hp
    have HV : Hid (Sg.valueV p before v = if before.any (Sg.meetB v) = true then 12 else 0) := Lib.hid (by
     unfold Sg.valueV
     rw [if_neg (by rw [ht]; simp; omega), if_neg (by omega)])
    have i1 : ¬ v.lo < 1 := by omega
    have i2 : ¬ v.hi < v.lo := by omega
    have i3 : ¬ p < v.hi := by omega
    clear ht
    generalize before.any (Sg.meetB v) = q at HV HCN
    go_enter Tryz.func59, Tryz.ntmps59
    go_upto_region 1 with fail
    rw [← HWA.out]
    go_wp2_with fail
    refine (gText_any v.kind v.text _ hv).mono ?_
    rw [HT.out]
    rintro e w1 ⟨rfl, rfl⟩
    go_wp2_with fail
    refine HCN.out.mono ?_
    rintro e w2 ⟨rfl, hb2⟩
    have HB2 := Lib.hid (HBA.out.trans (hb2.mono HBA.out.size))
    clear hb2 q0 q1 q2 q3 p0
    cases q <;> (
    go_wp2_with fail
    go_ret
    exact ⟨ret_int HV.out.symm, HB2.out⟩)
   ·have HV : Hid (Sg.valueV p before v = 13) := Lib.hid (by
     unfold Sg.valueV
     rw [if_neg (by rw [ht]; simp; omega), if_pos (by omega)])
    have hor : v.lo < 1 ∨ (¬ v.lo < 1 ∧ v.hi < v.lo) ∨ (¬ v.lo < 1 ∧ ¬ v.hi < v.lo ∧ p < v.hi) := by omega
    clear ht hp
    rcases hor with i1 | ⟨i1, i2⟩ | ⟨i1, i2, i3⟩
    all_goals
     go_enter Tryz.func59, Tryz.ntmps59
     go_upto_region 1 with fail
     rw [← HWA.out]
     go_wp2_with fail
     refine (gText_any v.kind v.text _ hv).mono ?_
     rw [HT.out]
     rintro e w1 ⟨rfl, rfl⟩
     go_wp2_with fail
     go_ret
     exact ⟨ret_int HV.out.symm, HBA.out⟩
 ·have HV : Hid (Sg.valueV p before v = 12) := Lib.hid (by unfold Sg.valueV; rw [if_pos (by omega)])
  have hor : v.kind < 1 ∨ (¬ v.kind < 1 ∧ 3 < v.kind) := by omega
  clear hk
  rcases hor with i1 | ⟨i1, i2⟩
  all_goals
   go_enter Tryz.func59, Tryz.ntmps59
   go_upto_region 1 with fail
   rw [← HWA.out]
   go_wp2_with fail
   go_ret
   exact ⟨ret_int HV.out.symm, HBA.out⟩
end Go.Proofs.YtenmkbpdkfhbjaaGreat
namespace Go.Proofs.YtenmkbpdkfhbjaaGreat
open Go Go.RowKit Go.Maps

theorem keyedS : Keyed Tryz.prog 9 := string_keyed Tryz.underlying9
theorem zeroI (w : World) : (zeroValue 3).run Tryz.prog w = .ok (.int .i64 0) w := by kernel_rfl
def seenD (l : List Sg.Sign) : DataW Unit := l.foldl (fun D s => D.put (.string s.code.data.toList) (.lit (.int .i64 1))) (.map [])
theorem seenD_snoc (l : List Sg.Sign) (s : Sg.Sign) : seenD (l ++ [s]) = (seenD l).put (.string s.code.data.toList) (.lit (.int .i64 1)) := by
 unfold seenD; rw [List.foldl_append]; rfl
theorem seenD_map (l : List Sg.Sign) : IsMap (seenD l) := by
 unfold seenD
 suffices h : ∀ D, IsMap D → IsMap (l.foldl (fun D s => D.put (.string s.code.data.toList) (.lit (.int .i64 1))) D : DataW Unit) from h _ isMap_empty
 induction l with
 | nil => exact fun _ h => h
 | cons s l ih => exact fun D h => ih _ (h.put _ _)
theorem seenD_at (l : List Sg.Sign) (c : ByteArray) : (seenD l).atKey (.string c.data.toList) (.lit (.int .i64 0)) = .lit (.int .i64 (if l.any (fun t => decide (t.code = c)) = true then 1 else 0)) := by
 suffices h : ∀ l : List Sg.Sign, (seenD l.reverse).atKey (.string c.data.toList) (.lit (.int .i64 0)) = .lit (.int .i64 (if l.reverse.any (fun t => decide (t.code = c)) = true then 1 else 0)) by
  have := h l.reverse
  rwa [List.reverse_reverse] at this
 intro l
 induction l with
 | nil => rfl
 | cons s l ih =>
  rw [List.reverse_cons, seenD_snoc, List.any_append]
  by_cases h : s.code = c
  ·subst h
   rw [atKey_put_same (seenD_map _) (by simp [WideAt.IsKeyLit])]
   simp
  ·rw [atKey_put_other (fun e => h (by
    have : c.data.toList = s.code.data.toList := by injection e
    exact (ByteArray.ext (Array.toList_inj.1 this)).symm)), ih]
   simp [h]
theorem ownsMap_below {w w' : World} {P : Program} {k : TypeId} {R : Value → Option (DataW Unit × List MemPlace)} {b n B : Nat} {D : DataW Unit} (h : w.ownsMap P k R b n D) (hb : Below B w w') (hlt : b < B) : w'.ownsMap P k R b n D := by
 obtain ⟨es, clock, h1, h2⟩ := h
 exact ⟨es, clock, (hb.block b hlt).trans h1, h2⟩
end Go.Proofs.YtenmkbpdkfhbjaaGreat
