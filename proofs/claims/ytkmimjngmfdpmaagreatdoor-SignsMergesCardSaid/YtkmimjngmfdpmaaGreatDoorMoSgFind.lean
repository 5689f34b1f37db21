/- signs.index, Find; ostraconref01.Find. -/
import Derived.Test.YtkmimjngmfdpmaaGreatDoorMoSgRCheck
import Derived.Test.YtkmimjngmfdpmaaGreatDoorMoSgBear
namespace Go.Proofs.YtkmimjngmfdpmaaGreatDoor
open Go Go.RowKit

set_option maxRecDepth 100000 in
set_option maxHeartbeats 2000000 in
theorem gIndex1_any (s : Sg.Sign) (A : Option Addr) (n cp : Nat) (c : ByteArray) (cb : Nat) (w : World) (hcb : cb < w.heap.size) (h0 : w.cell? ⟨cb, 0, none⟩ = some (.string c)) : Calls Tryz.prog 102 #[.agg #[.string s.code, .int .i64 s.wide, .int .i64 s.high, .bool s.even, .slice A n cp], .pointer (some ⟨cb, 0, none⟩)] w (RetBB (Sg.codeIs c s) w) := by
  have HB : Hid (Below w.heap.size w (w.alloc (.cells #[.string s.code, .int .i64 s.wide, .int .i64 s.high, .bool s.even, .slice A n cp] 67))) := Lib.hid ((Below.refl _ _).alloc (Nat.le_refl _) _)
  by_cases h : s.code = c
  · have HV : Hid (Sg.codeIs c s = true) := Lib.hid (by unfold Sg.codeIs; simp [h])
    subst h
    go_enter Tryz.func102, Tryz.ntmps102
    go_wp2_with fail
    go_ret
    exact ⟨ret_bool (by rw [HV.out]; try simp), HB.out⟩
  · have HV : Hid (Sg.codeIs c s = false) := Lib.hid (by unfold Sg.codeIs; simp [h])
    have ht : (s.code.toList == c.toList) = false := Lx.toList_ne h
    clear h
    go_enter Tryz.func102, Tryz.ntmps102
    go_wp2_with fail
    go_ret
    exact ⟨ret_bool (by rw [HV.out]; try simp), HB.out⟩
set_option maxRecDepth 100000 in
set_option maxHeartbeats 2000000 in
theorem indexSign_any (c : ByteArray) (cb : Nat) (v : Value) (l : List Sg.Sign) (w : World) (hg : RdG KSign w (· < w.heap.size) v l) (hcb : cb < w.heap.size) (h0 : w.cell? ⟨cb, 0, none⟩ = some (.string c)) :
    Calls Tryz.prog 101 #[v, .func (.func 102) #[] #[.pointer (some ⟨cb, 0, none⟩)]] w (RetIB (idxOf (Sg.codeIs c) l) w) := by
  have hn0 := hg.len
  obtain ⟨A0, c0, rfl⟩ := hg.form
  have HG0 := Lib.hid hg
  have HC := Lib.hid fun (W : World) (hW : Below w.heap.size w W) => (hW.cell (p := ⟨cb, 0, none⟩) hcb).trans h0
  clear hg h0
  go_enter Tryz.func101, Tryz.ntmps101
  go_wp2_with fail
  go_loopg [8] l.length (fun g i wr => ∃ k : Nat, k ≤ l.length ∧ g = l.length - k ∧ i = .int .i64 k ∧ Below w.heap.size w wr ∧ ∀ j z, j < k → l[j]? = some z → Sg.codeIs c z = false)
  case atStart => exact ⟨0, Nat.zero_le _, rfl, rfl, Below.refl _ _, fun j _ hj => absurd hj (Nat.not_lt_zero j)⟩
  case round =>
    obtain ⟨k, hk, rfl, rfl, hbel, hno⟩ := hrel
    have HB := Lib.hid hbel
    have HN := Lib.hid hno
    have hszr := hbel.size
    clear hbel hno
    by_cases hlt : k < l.length
    · obtain ⟨b, off, rfl, hb, hcell⟩ := HG0.out.five (by omega)
      obtain ⟨s, hs⟩ : ∃ s, l[k]? = some s := ⟨_, List.getElem?_eq_getElem hlt⟩
      obtain ⟨uv, hrd, g0, g1, g2, g3, g4⟩ := hcell k s hs
      have f0 := (HB.out.cell (p := ⟨b, off + k * 5, none⟩) hb).trans g0
      have f1 := (HB.out.cell (p := ⟨b, off + k * 5 + 1, none⟩) hb).trans g1
      have f2 := (HB.out.cell (p := ⟨b, off + k * 5 + 2, none⟩) hb).trans g2
      have f3 := (HB.out.cell (p := ⟨b, off + k * 5 + 3, none⟩) hb).trans g3
      have f4 := (HB.out.cell (p := ⟨b, off + k * 5 + 4, none⟩) hb).trans g4
      obtain ⟨A2, c2, rfl, hvc, hvm⟩ := rds_form hrd.rds
      have HF := Lib.hid (gIndex1_any s A2 s.values.length c2 c cb wr (by omega) (HC.out wr HB.out))
      have HE := Lib.hid hs
      have hkI : (0 : Int) ≤ (k : Int) := by omega
      have hkJ : (k : Int) < (l.length : Int) := by omega
      clear hs hcell g0 g1 g2 g3 g4 hrd
      go_wp2_with fail
      refine HF.out.mono ?_
      cases hp : Sg.codeIs c s
      · have HN2 : Hid (∀ j z, j < k + 1 → l[j]? = some z → Sg.codeIs c z = false) := Lib.hid (fun j z hj hz => by
          by_cases hjk : j = k
          · subst hjk; rw [HE.out] at hz; cases hz; exact hp
          · exact HN.out j z (by omega) hz)
        clear hp
        rintro e1 w1 ⟨rfl, hb1⟩
        have HB1 := Lib.hid hb1
        clear hb1
        go_wp2_with fail
        go_roundg (l.length - (k + 1))
        case measure => omega
        case rel => exact ⟨k + 1, by omega, rfl, by go_num, HB.out.trans (HB1.out.mono HB.out.size), HN2.out⟩
      · have HI := Lib.hid (idxOf_at HE.out hp HN.out)
        clear hp
        rintro e1 w1 ⟨rfl, hb1⟩
        have HB1 := Lib.hid hb1
        clear hb1
        go_wp2_with fail
        go_ret
        exact ⟨ret_int HI.out.symm, HB.out.trans (HB1.out.mono HB.out.size)⟩
    · have HI := Lib.hid (idxOf_none (p := Sg.codeIs c) (xs := l) fun j z hj hz => HN.out j z (by omega) hz)
      go_wp2_with fail
      go_ret
      exact ⟨ret_int HI.out.symm, HB.out⟩
set_option maxRecDepth 100000 in
set_option maxHeartbeats 2000000 in
theorem gIndex_any (v : Value) (l : Sg.SList) (c : ByteArray) (w : World) (hr : RdSL w w.heap.size v l) : Calls Tryz.prog 65 #[v, .string c] w (RetIB (idxOf (Sg.codeIs c) l.signs) w) := by
  obtain ⟨⟨u, rfl, hg⟩, hf⟩ := hr
  obtain ⟨A0, c0, rfl⟩ := hg.form
  obtain ⟨W1, hW1⟩ : ∃ W1, W1 = (w.alloc (.cells #[.int .i64 l.periods, .slice A0 l.signs.length c0] 24)).alloc (.cells #[.string c] 9) := ⟨_, rfl⟩
  have hb1 : Below w.heap.size w W1 := by rw [hW1]; exact ((Below.refl _ _).alloc (Nat.le_refl _) _).alloc (by simp) _
  have hX : W1.heap[w.heap.size]? = some (.cells #[.int .i64 l.periods, .slice A0 l.signs.length c0] 24 (0, 0)) := by rw [hW1]; exact start_fst w _ _
  have hY : W1.heap[w.heap.size + 1]? = some (.cells #[.string c] 9 (0, 0)) := by rw [hW1]; exact start_res' w _ _
  have hs1 : w.heap.size + 1 < W1.heap.size := (Array.getElem?_eq_some_iff.1 hY).1
  have x1 : W1.cell? ⟨w.heap.size, 1, none⟩ = some (.slice A0 l.signs.length c0) := by simp [World.cell?, hX]
  have HIS := Lib.hid (indexSign_any c (w.heap.size + 1) _ l.signs W1 (hg.keep fun b hb => ⟨by omega, hb1.block b hb⟩) hs1 (by simp [World.cell?, hY]))
  have HB1 := Lib.hid hb1
  have HW1 := Lib.hid hW1
  clear hg hf hW1 hb1 hX hY
  go_enter Tryz.func65, Tryz.ntmps65
  go_upto_region 1 with fail
  rw [← HW1.out]
  go_wp2_with fail
  refine HIS.out.mono ?_
  rintro e w2 ⟨rfl, hb2⟩
  have HB2 := Lib.hid (HB1.out.trans (hb2.mono (by omega)))
  clear hb2
  go_wp2_with fail
  go_ret
  exact ⟨rfl, HB2.out⟩
def RetIxE (q : Int × Int) (w : World) (e : Ending) (w' : World) : Prop := e = .returned (.tuple #[.int .i64 q.1, .int .i64 q.2]) ∧ Below w.heap.size w w'
theorem RetIxE.of {q : Int × Int} {a b : Int} {w w' : World} (hq : q = (a, b)) (hb : Below w.heap.size w w') : RetIxE q w (.returned (.tuple #[.int .i64 a, .int .i64 b])) w' := by subst hq; exact ⟨rfl, hb⟩
end Go.Proofs.YtkmimjngmfdpmaaGreatDoor
