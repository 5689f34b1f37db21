/- ostraconlaw05.Large and far. -/
import Derived.Test.YtpmfjndbckblfaaDoorBig
import Derived.Test.YtpmfjndbckblfaaDoorStem
namespace Go.Proofs.YtpmfjndbckblfaaDoor
open Go.RowKit

def Lx.largeV (x : Lx.Lexicon) : Bool := Lx.bigV x || decide (20 < x.entries.length) || decide (6 < x.endings.length) || decide (5 < x.clitics.length)
def Lx.farV (x : Lx.Lexicon) (s : ByteArray) : Bool := Lx.largeV x || decide (100 < s.size)

set_option maxRecDepth 100000 in
set_option maxHeartbeats 2000000 in
theorem Large_any (v : Value) (x : Lx.Lexicon) (w : World) (hr : RdL w w.heap.size v x) : Calls Tryd.prog 45 #[v] w (RetBB (Lx.largeV x) w) := by
  have HB : Hid (∀ W, Below w.heap.size w W → Calls Tryd.prog 11 #[v] W (RetBB (Lx.bigV x) W)) := Lib.hid fun W hW => Big_any v x W ((hr.below hW).more hW.size)
  obtain ⟨⟨v0, v1, v2, rfl, ⟨A0, c0, rfl, hl0, hm0, -⟩, ⟨A1, c1, rfl, hl1, hm1, -⟩, ⟨A2, c2, rfl, hl2, hm2, -⟩⟩, -, -, -⟩ := hr
  have hn0 : x.entries.length ≤ 9223372036854775807 := by omega
  have hn1 : x.endings.length ≤ 9223372036854775807 := by omega
  have hn2 : x.clitics.length ≤ 9223372036854775807 := by omega
  clear hl0 hl1 hl2 hm0 hm1 hm2
  have hal : Below w.heap.size w (w.alloc (.cells #[.slice A0 x.entries.length c0, .slice A1 x.endings.length c1, .slice A2 x.clitics.length c2] 26)) := (Below.refl _ _).alloc (Nat.le_refl _) _
  go_enter Tryd.func45, Tryd.ntmps45
  go_wp2_with fail
  refine (HB.out _ hal).mono ?_
  rintro e1 w1 ⟨rfl, hb1⟩
  have hX := (hb1.block w.heap.size (by simp)).trans (heap_alloc_new _ _)
  have x0 : w1.cell? ⟨w.heap.size, 0, none⟩ = some (.slice A0 x.entries.length c0) := by simp [World.cell?, hX]
  have x1 : w1.cell? ⟨w.heap.size, 1, none⟩ = some (.slice A1 x.endings.length c1) := by simp [World.cell?, hX]
  have x2 : w1.cell? ⟨w.heap.size, 2, none⟩ = some (.slice A2 x.clitics.length c2) := by simp [World.cell?, hX]
  have HB1 := Lib.hid (hal.trans (hb1.mono hal.size))
  clear hb1 hX hal
  have HF : Hid (Lx.largeV x = (Lx.bigV x || decide ((20 : Int) < (x.entries.length : Int)) || decide ((6 : Int) < (x.endings.length : Int)) || decide ((5 : Int) < (x.clitics.length : Int)))) := Lib.hid (by
    unfold Lx.largeV
    congr 1
    · congr 1
      · congr 1
        rw [Bool.eq_iff_iff]; simp; omega
      · rw [Bool.eq_iff_iff]; simp; omega
    · rw [Bool.eq_iff_iff]; simp; omega)
  cases hb : Lx.bigV x
  · rw [hb] at HF
    by_cases h0 : (20 : Int) < (x.entries.length : Int)
    · have HV : Hid (Lx.largeV x = true) := Lib.hid (by rw [HF.out]; simp [h0])
      clear HF
      go_wp2_with fail
      go_ret
      exact ⟨ret_bool HV.out.symm, HB1.out⟩
    · by_cases h1 : (6 : Int) < (x.endings.length : Int)
      · have HV : Hid (Lx.largeV x = true) := Lib.hid (by rw [HF.out]; simp [h1])
        clear HF
        go_wp2_with fail
        go_ret
        exact ⟨ret_bool HV.out.symm, HB1.out⟩
      · have HV : Hid (Lx.largeV x = decide ((5 : Int) < (x.clitics.length : Int))) := Lib.hid (by rw [HF.out]; simp [h0, h1])
        clear HF
        by_cases h2 : (5 : Int) < (x.clitics.length : Int)
        · go_wp2_with fail
          go_ret
          exact ⟨ret_bool (by rw [HV.out]; simp <;> omega), HB1.out⟩
        · go_wp2_with fail
          go_ret
          exact ⟨ret_bool (by rw [HV.out]; simp <;> omega), HB1.out⟩
  · rw [hb] at HF
    have HV : Hid (Lx.largeV x = true) := Lib.hid (by rw [HF.out]; simp)
    clear HF
    go_wp2_with fail
    go_ret
    exact ⟨ret_bool HV.out.symm, HB1.out⟩

set_option maxRecDepth 100000 in
set_option maxHeartbeats 2000000 in
theorem far_any (v0 v1 v2 : Value) (x : Lx.Lexicon) (s : ByteArray) (w : World) (hr : RdL w w.heap.size (.agg #[v0, v1, v2]) x) (hs : s.size ≤ maxLen) : Calls Tryd.prog 20 #[.agg #[v0, v1, v2, .string s]] w (RetBB (Lx.farV x s) w) := by
  have HB : Hid (∀ W, Below w.heap.size w W → Calls Tryd.prog 45 #[.agg #[v0, v1, v2]] W (RetBB (Lx.largeV x) W)) := Lib.hid fun W hW => Large_any _ x W ((hr.below hW).more hW.size)
  obtain ⟨⟨_, _, _, e, ⟨A0, c0, rfl, -⟩, ⟨A1, c1, rfl, -⟩, ⟨A2, c2, rfl, -⟩⟩, -, -, -⟩ := hr
  cases e
  have hs' : s.size ≤ 9223372036854775807 := by simpa [maxLen] using hs
  have hal : Below w.heap.size w (w.alloc (.cells #[.slice A0 x.entries.length c0, .slice A1 x.endings.length c1, .slice A2 x.clitics.length c2, .string s] 40)) := (Below.refl _ _).alloc (Nat.le_refl _) _
  clear hs
  go_enter Tryd.func20, Tryd.ntmps20
  go_wp2_with fail
  refine (HB.out _ hal).mono ?_
  rintro e1 w1 ⟨rfl, hb1⟩
  have hX := (hb1.block w.heap.size (by simp)).trans (heap_alloc_new _ _)
  have x3 : w1.cell? ⟨w.heap.size, 3, none⟩ = some (.string s) := by simp [World.cell?, hX]
  have HB1 := Lib.hid (hal.trans (hb1.mono hal.size))
  clear hb1 hX hal
  cases hb : Lx.largeV x
  · by_cases h0 : (100 : Int) < (s.size : Int)
    · have HV : Hid (Lx.farV x s = true) := Lib.hid (by unfold Lx.farV; rw [hb]; simp; omega)
      clear hb
      go_wp2_with fail
      go_ret
      exact ⟨ret_bool HV.out.symm, HB1.out⟩
    · have HV : Hid (Lx.farV x s = false) := Lib.hid (by unfold Lx.farV; rw [hb]; simp; omega)
      clear hb
      go_wp2_with fail
      go_ret
      exact ⟨ret_bool (by rw [HV.out]; simp <;> omega), HB1.out⟩
  · have HV : Hid (Lx.farV x s = true) := Lib.hid (by unfold Lx.farV; rw [hb]; simp)
    clear hb
    go_wp2_with fail
    go_ret
    exact ⟨ret_bool HV.out.symm, HB1.out⟩
end Go.Proofs.YtpmfjndbckblfaaDoor
