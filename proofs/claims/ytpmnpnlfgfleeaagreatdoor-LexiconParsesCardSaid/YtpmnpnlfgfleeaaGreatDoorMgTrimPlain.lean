/- slices.Contains(words, "") of the program. The value of a row of digits: as the kit's atoi says it. Of a text all digits, and of no other, strings.Trim with the ten digits leaves nothing. -/
import Derived.Test.YtpmnpnlfgfleeaaGreatDoorMgLines
import Derived.Test.YtpmnpnlfgfleeaaGreatDoorMgMatchPlain
import Derived.Lib.Atoi
import Derived.Lib.SlTrimSet
namespace Go.Proofs.YtpmnpnlfgfleeaaGreatDoor
open Go Go.RowKit

def RetHole (h : Bool) (w : World) (e : Ending) (w' : World) : Prop := ∃ n : Int, e = .returned (.int .i64 n) ∧ decide (0 ≤ n) = h ∧ w' = w
set_option maxRecDepth 100000 in
set_option maxHeartbeats 2000000 in
theorem indexHole_any (v : Value) (l : List ByteArray) (w : World) (h : RdS w w.heap.size 1 encStr v l) (hl : l.length ≤ 1000001) : Calls Tryz.prog 102 #[v, .string ⟨#[]⟩] w (RetHole (!Lx.fullV l) w) := by
  obtain ⟨A, c, rfl, hlc, hc, hh⟩ := h
  have HH := Lib.hid hh
  clear hh
  go_enter Tryz.func102, Tryz.ntmps102
  go_wp2_with fail
  go_loop [5, 8] (fun _ q => ∃ k : Nat, k ≤ l.length ∧ q = .int .i64 k ∧ Lx.fullV (l.take k) = true) (fun _ q => l.length - (intOf q).toNat)
  case atStart => exact ⟨0, Nat.zero_le _, rfl, rfl⟩
  case round =>
    obtain ⟨k, hk, rfl, hal⟩ := hrel
    have HAL := Lib.hid hal
    clear hal
    by_cases hlt : k < l.length
    · obtain ⟨b, off, rfl, hb, hcell⟩ := HH.out (by omega)
      have hk1 : l[k]? = some l[k] := List.getElem?_eq_getElem hlt
      have hc0 : w.cell? ⟨b, off + k, none⟩ = some (.string l[k]) := by
        have := hcell k l[k] hk1 0 (.string l[k]) rfl
        simpa using this
      clear hcell
      obtain ⟨s, hs⟩ : ∃ s, s = l[k] := ⟨_, rfl⟩
      rw [← hs] at hc0 hk1
      have HS := Lib.hid hs
      have HK1 := Lib.hid hk1
      clear hs hk1
      by_cases he : s = ⟨#[]⟩
      · subst he
        have HB : Hid (Lx.fullV l = false) := Lib.hid (by
          unfold Lx.fullV
          rw [List.all_eq_false]
          exact ⟨_, List.mem_of_getElem? HK1.out, by simp⟩)
        go_wp2_with fail
        go_ret
        exact ⟨_, rfl, by rw [HB.out]; simp, rfl⟩
      · have hne := empty_not (s := s) fun e => he (ba_empty e)
        have hb1 : s.toList.isEmpty = false := hne
        have hb2 : (([] : List UInt8) == s.toList) = false := by cases q : s.toList with
          | nil => rw [q] at hne; cases hne
          | cons a r => rfl
        have HNX : Hid (Lx.fullV (l.take (k + 1)) = true) := Lib.hid (by
          have hh := HAL.out
          unfold Lx.fullV at hh ⊢
          rw [List.take_succ_eq_append_getElem hlt, List.all_append, hh, ← HS.out]
          have : ¬ s.data.toList = [] := fun e => he (ba_empty e)
          show (true && (!decide (s.data.toList = []) && true)) = true
          rw [decide_eq_false this]
          rfl)
        clear hne
        go_wp2_with fail
        refine ⟨⟨k + 1, hlt, rfl, HNX.out⟩, ?_⟩
        have e1 : (intOf (Value.int .i64 ((k : Int) + 1))).toNat = k + 1 := by show ((k : Int) + 1).toNat = _; omega
        have e2 : (intOf (Value.int .i64 (k : Int))).toNat = k := Int.toNat_natCast k
        omega
    · have HB : Hid (Lx.fullV l = true) := Lib.hid (by
        have := HAL.out
        rwa [List.take_of_length_le (by omega)] at this)
      go_wp2_with fail
      go_ret
      exact ⟨_, rfl, by rw [HB.out]; rfl, rfl⟩
theorem containsHole_any (v : Value) (l : List ByteArray) (w : World) (h : RdS w w.heap.size 1 encStr v l) (hl : l.length ≤ 1000001) : Calls Tryz.prog 80 #[v, .string ⟨#[]⟩] w (RetB (!Lx.fullV l) w) := by
  have HI := Lib.hid (indexHole_any v l w h hl)
  obtain ⟨A, c, rfl, -⟩ := h
  go_enter Tryz.func80, Tryz.ntmps80
  go_wp2_with fail
  refine HI.out.mono ?_
  rintro e w' ⟨n, rfl, hn, rfl⟩
  have HN := Lib.hid hn
  clear hn
  go_wp2_with fail
  go_ret
  exact ⟨ret_bool (a := decide (0 ≤ n)) HN.out, rfl⟩
end Go.Proofs.YtpmnpnlfgfleeaaGreatDoor
namespace Go.Proofs.YtpmnpnlfgfleeaaGreatDoor
open Go

theorem Lx.digVal {b : UInt8} (h : Lx.digB b = true) : Lib.digitVal b = some (b.toNat - 48) := by
  unfold Lib.digitVal
  rw [if_pos]
  simpa [Lx.digB] using h
theorem Lx.dec_from : ∀ (l : List UInt8) (acc : Nat), l.all Lx.digB = true → ∃ n : Nat, Lib.decFrom acc l = some n ∧ (n : Int) = l.foldl (fun n b => 10 * n + ((b.toNat : Int) - 48)) (acc : Int)
  | [], acc, _ => ⟨acc, rfl, rfl⟩
  | b :: r, acc, h => by
    rw [List.all_cons, Bool.and_eq_true] at h
    obtain ⟨n, h1, h2⟩ := Lx.dec_from r (acc * 10 + (b.toNat - 48)) h.2
    refine ⟨n, ?_, ?_⟩
    · unfold Lib.decFrom
      rw [Lx.digVal h.1]
      exact h1
    · rw [h2, List.foldl_cons]
      have hb : 48 ≤ b.toNat := by
        have := h.1
        simp [Lx.digB] at this
        omega
      congr 1
      omega
theorem Lx.atoi_dig {l : List UInt8} (h0 : l ≠ []) (h : l.all Lx.digB = true) : Lib.atoi l = some (Lx.digV l) := by
  cases l with
  | nil => exact absurd rfl h0
  | cons b r =>
    have hb : Lx.digB b = true := by rw [List.all_cons, Bool.and_eq_true] at h; exact h.1
    have hb2 : 48 ≤ b.toNat ∧ b.toNat ≤ 57 := by simpa [Lx.digB] using hb
    obtain ⟨n, h1, h2⟩ := Lx.dec_from (b :: r) 0 h
    have e1 : (b == 45) = false := by rw [beq_eq_false_iff_ne]; rintro rfl; exact absurd hb2.1 (by decide)
    have e2 : (b == 43) = false := by rw [beq_eq_false_iff_ne]; rintro rfl; exact absurd hb2.1 (by decide)
    show (if (b == 45) = true then (Lib.decNat r).map fun (m : Nat) => -(m : Int) else if (b == 43) = true then (Lib.decNat r).map fun (m : Nat) => (m : Int) else (Lib.decNat (b :: r)).map fun (m : Nat) => (m : Int)) = _
    rw [e1, e2]
    have e3 : Lib.decNat (b :: r) = some n := by unfold Lib.decNat; exact h1
    simp only [Bool.false_eq_true, if_false, e3, Option.map_some]
    rw [h2]
    rfl
end Go.Proofs.YtpmnpnlfgfleeaaGreatDoor
namespace Go.Proofs.YtpmnpnlfgfleeaaGreatDoor
open Go

def Lx.tenD : List UInt8 := [48, 49, 50, 51, 52, 53, 54, 55, 56, 57]
theorem Lx.ten_dig (b : UInt8) : Lx.tenD.contains b = Lx.digB b := by
  have h : ∀ n : Fin 256, Lx.tenD.contains (UInt8.ofNat n.val) = Lx.digB (UInt8.ofNat n.val) := by decide +kernel
  have := h ⟨b.toNat, b.toNat_lt⟩
  simpa using this
theorem drop_while_nil {α : Type} (p : α → Bool) : ∀ l : List α, l.dropWhile p = [] ↔ l.all p = true
  | [] => by simp
  | a :: l => by
    rw [List.dropWhile_cons, List.all_cons]
    cases h : p a
    · simp
    · simp [drop_while_nil p l]
theorem drop_while_all {α : Type} (p : α → Bool) : ∀ l : List α, (l.dropWhile p).all p = l.all p
  | [] => rfl
  | a :: l => by
    rw [List.dropWhile_cons]
    cases h : p a
    · simp
    · simp [h, drop_while_all p l]
theorem Lx.trim_dig (l : List UInt8) : (Lib.trimS l Lx.tenD = []) ↔ l.all Lx.digB = true := by
  have e : (fun b => Lx.tenD.contains b) = Lx.digB := funext Lx.ten_dig
  unfold Lib.trimS Lib.trimLeftS Lib.trimRightS
  simp only [e]
  rw [drop_while_nil, List.all_reverse, drop_while_all, List.all_reverse]
end Go.Proofs.YtpmnpnlfgfleeaaGreatDoor
