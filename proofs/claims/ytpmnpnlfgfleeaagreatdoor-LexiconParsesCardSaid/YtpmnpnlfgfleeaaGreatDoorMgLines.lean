/- ostraconref01.Lines, ostraconref05.full. -/
import Derived.Test.YtpmnpnlfgfleeaaGreatDoorMgNumber
import Derived.Test.YtpmnpnlfgfleeaaGreatDoorMgClos
import Derived.Test.YtpmnpnlfgfleeaaGreatDoorMgMem
namespace Go.Proofs.YtpmnpnlfgfleeaaGreatDoor
open Go Go.RowKit

/-- the lines, and whether the last one ends -/
def Lx.linesV (l : List UInt8) : List (List UInt8) × Bool := if (Lib.split l [10]).getLast? = some [] then ((Lib.split l [10]).dropLast, true) else (Lib.split l [10], false)
/-- words of a piece of memory, and a truth value -/
def RetWB (q : List (List UInt8)) (b : Bool) (w : World) (e : Ending) (w' : World) : Prop := ∃ v, ∃ l : List ByteArray, e = .returned (.tuple #[v, .bool b]) ∧ RdS w' w'.heap.size 1 encStr v l ∧ l.map (·.data.toList) = q ∧ Below w.heap.size w w'
theorem Lx.split_ne (l : List UInt8) (c : UInt8) : Lib.split l [c] ≠ [] := by rw [Lx.pst_split]; simp
def Lx.fullV (l : List ByteArray) : Bool := l.all fun b => !decide (b.data.toList = [])
theorem ba_empty {b : ByteArray} (h : b.data.toList = []) : b = ⟨#[]⟩ := by
  obtain ⟨⟨l⟩⟩ := b
  simp at h
  subst h
  rfl
theorem empty_not {s : ByteArray} (h : ¬ s.data.toList = []) : s.toList.isEmpty = false := by
  rw [Go.Lib.toList_data]
  cases e : s.data.toList with
  | nil => exact absurd e h
  | cons a l => rfl

/-- the last word is the empty one -/
theorem RetWB.of {v : Value} {l : List ByteArray} {w w' : World} {q : List (List UInt8)} {b c : Bool} (hr : RdS w' w'.heap.size 1 encStr v l) (hb : Below w.heap.size w w') (hq : l.map (·.data.toList) = q) (hc : c = b) : RetWB q b w (.returned (.tuple #[v, .bool c])) w' := ⟨v, l, by rw [hc], hr, hq, hb⟩
set_option maxRecDepth 100000 in
set_option maxHeartbeats 2000000 in
theorem r1Lines_any (t : ByteArray) (w : World) (ht : t.size ≤ 1000000) : Calls Tryz.prog 48 #[.string t] w (RetWB (Lx.linesV t.data.toList).1 (Lx.linesV t.data.toList).2 w) := by
  go_enter Tryz.func48, Tryz.ntmps48
  go_wp2_with fail
  refine (r1Split_any t 10 _ ht).mono ?_
  rintro e w1 ⟨v, l, rfl, hown, hq, hbel⟩
  have hne : l ≠ [] := fun h => by rw [h] at hq; exact Lx.split_ne _ _ hq.symm
  have hpos : 0 < l.length := List.length_pos_iff.2 hne
  have hRD := rds_of_own len_str hown
  have hl1 : l.length ≤ 1000001 := by
    have h1 := congrArg List.length hq
    rw [List.length_map, Lx.pst_split, List.length_append, List.length_singleton] at h1
    have h2 := Lx.pst_count 10 t.data.toList
    have h3 : t.data.toList.length = t.size := rfl
    omega
  obtain ⟨A, c, rfl, hlc, hc, hh⟩ := id hRD
  obtain ⟨b, off, rfl, hb, hcell⟩ := hh hpos
  obtain ⟨s, hs⟩ : ∃ s, s = l[l.length - 1] := ⟨_, rfl⟩
  have hk1 : l[l.length - 1]? = some s := by rw [hs]; exact List.getElem?_eq_getElem (by omega)
  have hidx : (l.length : Int) - 1 = ((l.length - 1 : Nat) : Int) := by omega
  have hc0 : w1.cell? ⟨b, off + (l.length - 1), none⟩ = some (.string s) := by
    have := hcell (l.length - 1) s hk1 0 (.string s) rfl
    simpa using this
  obtain ⟨m, hm⟩ : ∃ m, m = l.length - 1 := ⟨_, rfl⟩
  rw [← hm] at hidx hc0 hk1
  have hml : m < l.length := by omega
  have hlast : (Lib.split t.data.toList [10]).getLast? = some s.data.toList := by
    rw [← hq, List.getLast?_map, List.getLast?_eq_getElem?, ← hm, hk1]
    rfl
  have HRD := Lib.hid hRD
  have HB := Lib.hid hbel
  have HQ := Lib.hid hq
  have HM := Lib.hid hm
  have HLAST := Lib.hid hlast
  clear hown hq hbel hRD hcell hh hm hs hk1 hlast hne
  by_cases he : s = ⟨#[]⟩
  · subst he
    have HV : Hid (Lx.linesV t.data.toList = ((Lib.split t.data.toList [10]).dropLast, true)) := Lib.hid (by unfold Lx.linesV; rw [if_pos HLAST.out])
    go_wp2_with fail
    go_ret2
    exact RetWB.of (v := .slice (some ⟨b, off, none⟩) m c) (l := l.take m) (c := true) (rds_take HRD.out (by omega)) HB.out (by rw [HV.out, ← HQ.out, List.map_take, HM.out, List.dropLast_eq_take, List.length_map]) (by rw [HV.out])
  · have hb1 : s.toList.isEmpty = false := empty_not fun e => he (ba_empty e)
    have HV : Hid (Lx.linesV t.data.toList = (Lib.split t.data.toList [10], false)) := Lib.hid (by
      unfold Lx.linesV
      rw [if_neg]
      rw [HLAST.out]
      intro e
      exact he (ba_empty (Option.some.inj e)))
    go_wp2_with fail
    go_ret2
    exact RetWB.of (v := .slice (some ⟨b, off, none⟩) l.length c) (l := l) (c := false) HRD.out HB.out (by rw [HV.out, ← HQ.out]) (by rw [HV.out])

set_option maxRecDepth 100000 in
set_option maxHeartbeats 2000000 in
theorem rfull_any (v : Value) (l : List ByteArray) (w : World) (h : RdS w w.heap.size 1 encStr v l) (hl : l.length ≤ 1000001) : Calls Tryz.prog 83 #[v] w (RetB (Lx.fullV l) w) := by
  obtain ⟨A, c, rfl, hlc, hc, hh⟩ := h
  have HH := Lib.hid hh
  clear hh
  go_enter Tryz.func83, Tryz.ntmps83
  go_wp2_with fail
  go_loop [3] (fun q => ∃ k : Nat, k ≤ l.length ∧ q = .int .i64 k ∧ Lx.fullV (l.take k) = true) (fun q => l.length - (intOf q).toNat)
  case atStart => exact ⟨0, Nat.zero_le _, rfl, rfl⟩
  case round =>
    obtain ⟨k, hk, rfl, hal⟩ := hrel
    have HAL := Lib.hid hal
    clear hal
    by_cases hlt : k < l.length
    · obtain ⟨b, off, rfl, hb, hcell⟩ := HH.out (by omega)
      have hk1 : l[k]? = some l[k] := List.getElem?_eq_getElem hlt
      have hc0 : w.cell? ⟨b, off + k, none⟩ = some (.string l[k]) := by
        have := hcell k l[k] hk1 0 (.string l[k]) rfl
        simpa using this
      clear hcell
      obtain ⟨s, hs⟩ : ∃ s, s = l[k] := ⟨_, rfl⟩
      rw [← hs] at hc0 hk1
      have HS := Lib.hid hs
      have HK1 := Lib.hid hk1
      clear hs hk1
      by_cases he : s = ⟨#[]⟩
      · subst he
        have HB : Hid ((Lx.fullV l) = false) := Lib.hid (by
          unfold Lx.fullV
          rw [List.all_eq_false]
          exact ⟨_, List.mem_of_getElem? HK1.out, by simp⟩)
        go_wp2_with fail
        go_ret
        exact ⟨ret_bool HB.out.symm, rfl⟩
      · have hb1 : s.toList.isEmpty = false := empty_not fun e => he (ba_empty e)
        have HNX : Hid (Lx.fullV (l.take (k + 1)) = true) := Lib.hid (by
          have hh := HAL.out
          unfold Lx.fullV at hh ⊢
          rw [List.take_succ_eq_append_getElem hlt, List.all_append, hh, ← HS.out]
          have : ¬ s.data.toList = [] := fun e => he (ba_empty e)
          show (true && (!decide (s.data.toList = []) && true)) = true
          rw [decide_eq_false this]
          rfl)
        go_wp2_with fail
        refine ⟨⟨k + 1, hlt, rfl, HNX.out⟩, ?_⟩
        have e1 : (intOf (Value.int .i64 ((k : Int) + 1))).toNat = k + 1 := by show ((k : Int) + 1).toNat = _; omega
        have e2 : (intOf (Value.int .i64 (k : Int))).toNat = k := Int.toNat_natCast k
        omega
    · have hkt : k = l.length := by omega
      have HB : Hid ((Lx.fullV l) = true) := Lib.hid (by
        have := HAL.out
        rwa [List.take_of_length_le (by omega)] at this)
      go_wp2_with fail
      go_ret
      exact ⟨ret_bool HB.out.symm, rfl⟩
end Go.Proofs.YtpmnpnlfgfleeaaGreatDoor
