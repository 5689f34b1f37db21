/- ostraconref01.Number. The value of a row of digits: as the kit's atoi says it. Of a text all digits, and of no other, strings.Trim with the ten digits leaves nothing. -/
import Derived.Test.YtkmimjngmfdpmaaGreatDoorMgText01
import Derived.Test.YtkmimjngmfdpmaaGreatDoorMgTextPlain
import Derived.Lib.Atoi
import Derived.Lib.SlTrimSet
namespace Go.Proofs.YtkmimjngmfdpmaaGreatDoor
open Go Go.RowKit

/-- a number and whether it is one -/
def RetNB (n : Int) (b : Bool) (w : World) (e : Ending) (w' : World) : Prop := e = .returned (.tuple #[.int .i64 n, .bool b]) ∧ w' = w
theorem ret_nb {a b : Int} {c d : Bool} (h : a = b) (h' : c = d) : Ending.returned (.tuple #[.int .i64 a, .bool c]) = .returned (.tuple #[.int .i64 b, .bool d]) := by rw [h, h']
theorem digV_succ (t : ByteArray) (k : Nat) (h : k < t.size) : Lx.digV (t.data.toList.take (k + 1)) = 10 * Lx.digV (t.data.toList.take k) + ((t[k].toNat : Int) - 48) := by
  have hk : k < t.data.toList.length := h
  rw [List.take_succ_eq_append_getElem hk]
  unfold Lx.digV
  rw [List.foldl_append]
  rfl
theorem Lx.digV_bound : ∀ (l : List UInt8), l.all Lx.digB = true → 0 ≤ Lx.digV l ∧ Lx.digV l < 10 ^ l.length := by
  intro l
  refine Lx.list_rev_ind (P := fun l => l.all Lx.digB = true → 0 ≤ Lx.digV l ∧ Lx.digV l < 10 ^ l.length) (fun _ => by simp [Lx.digV]) (fun l a ih h => ?_) l
  rw [List.all_append, Bool.and_eq_true] at h
  obtain ⟨h1, h2⟩ := ih h.1
  have h3 : 48 ≤ a.toNat ∧ a.toNat ≤ 57 := by
    have := h.2
    simpa [Lx.digB] using this
  have e : Lx.digV (l ++ [a]) = 10 * Lx.digV l + ((a.toNat : Int) - 48) := by unfold Lx.digV; rw [List.foldl_append]; rfl
  rw [e, List.length_append, List.length_singleton, Int.pow_succ]
  constructor
  · omega
  · omega

theorem digB_in (c : UInt8) : Lx.digB c = (decide ((48 : Int) ≤ (c.toNat : Int)) && decide ((c.toNat : Int) ≤ 57)) := by
  rw [Bool.eq_iff_iff]; simp [Lx.digB]; omega
set_option maxRecDepth 100000 in
set_option maxHeartbeats 2000000 in
theorem r1Number_any (t : ByteArray) (most : Int) (w : World) (ht : t.size ≤ 1000000) (hm0 : 1 ≤ most) (hm : most ≤ 4) : Calls Tryz.prog 63 #[.string t, .int .i64 most] w (RetNB (Lx.numV t.data.toList most) (Lx.numB t.data.toList most) w) := by
  have hlen : t.data.toList.length = t.size := rfl
  by_cases hg : 1 ≤ t.size ∧ (t.size : Int) ≤ most
  · obtain ⟨hg1, hg2⟩ := hg
    have h0 : 0 < t.size := by omega
    have hz : t.data.toList[0]? = some t[0] := by rw [List.getElem?_eq_getElem (by rw [hlen]; exact h0)]; rfl
    have a1 : decide ((t.size : Int) < 1) = false := by simp; omega
    have a1' : ¬ (t.size : Int) < 1 := by omega
    have a2 : decide (most < (t.size : Int)) = false := by simp; omega
    have a2' : ¬ most < (t.size : Int) := by omega
    by_cases hc : t[0] = 48 ∧ 1 < t.size
    · have HN : Hid (Lx.numB t.data.toList most = false) := Lib.hid (by
        unfold Lx.numB
        rw [hz, hc.1, hlen]
        simp [hc.2])
      have HV : Hid (Lx.numV t.data.toList most = 0) := Lib.hid (by unfold Lx.numV; rw [HN.out]; rfl)
      have b1 : ((t[0].toNat : Int) == 48) = true := by rw [hc.1]; rfl
      have b1' : t[0] = 48 := hc.1
      have b2 : (1 : Int) < (t.size : Int) := by omega
      clear hz hc
      go_enter Tryz.func63, Tryz.ntmps63
      go_wp2_with fail
      go_ret2
      exact ⟨ret_nb HV.out.symm HN.out.symm, rfl⟩
    · have HLEAD : Hid ((!(decide (t.data.toList[0]? = some 48) && decide (1 < t.data.toList.length))) = true) := Lib.hid (by
        rw [hz, hlen]
        simp only [Option.some.injEq, Bool.not_eq_true', Bool.and_eq_false_iff, decide_eq_false_iff_not]
        by_cases q : t[0] = 48
        · exact .inr fun q2 => hc ⟨q, q2⟩
        · exact .inl q)
      have hcc : ¬ (t[0].toNat : Int) = 48 ∨ ((t[0].toNat : Int) = 48 ∧ (t.size : Int) ≤ 1) := by
        by_cases q : t[0] = 48
        · exact .inr ⟨by rw [q]; rfl, by have : ¬ 1 < t.size := fun q2 => hc ⟨q, q2⟩; omega⟩
        · left
          intro e
          exact q (UInt8.toNat_inj.1 (by have : (48 : UInt8).toNat = 48 := rfl; omega))
      have HPRE : Hid ((decide (1 ≤ t.data.toList.length) && decide ((t.data.toList.length : Int) ≤ most)) = true) := Lib.hid (by rw [hlen]; simp; omega)
      clear hz hc
      have ht4 : t.size ≤ 4 := by omega
      clear a1 a2
      rcases hcc with hq | ⟨hq, hq1⟩ <;> (
      go_enter Tryz.func63, Tryz.ntmps63
      go_upto_region 3 with fail
      go_wp2_with fail
      go_loop [6, 7] (fun v q => ∃ k : Nat, k ≤ t.size ∧ q = .int .i64 k ∧ v = .int .i64 (Lx.digV (t.data.toList.take k)) ∧ (t.data.toList.take k).all Lx.digB = true) (fun _ q => t.size - (intOf q).toNat)
      case atStart => exact ⟨0, Nat.zero_le _, rfl, rfl, rfl⟩
      case round =>
        obtain ⟨k, hk, rfl, rfl, hal⟩ := hrel
        have HAL := Lib.hid hal
        have hbd := Lx.digV_bound _ hal
        obtain ⟨n, hn⟩ : ∃ n, n = Lx.digV (t.data.toList.take k) := ⟨_, rfl⟩
        rw [← hn] at hbd ⊢
        have HNV := Lib.hid hn
        have hn0 : 0 ≤ n := hbd.1
        have hn1 : n ≤ 10000 := by
          have h1 := hbd.2
          have h2 : (10 : Int) ^ (t.data.toList.take k).length ≤ 10 ^ 4 := by
            have : (t.data.toList.take k).length ≤ 4 := by rw [List.length_take]; omega
            exact_mod_cast Nat.pow_le_pow_right (by omega : 1 ≤ 10) this
          have h3 : (10 : Int) ^ 4 = 10000 := by decide
          omega
        clear hal hbd hn
        by_cases hlt : k < t.size
        · have HD := Lib.hid (digB_in t[k])
          cases h1 : (decide ((48 : Int) ≤ (t[k].toNat : Int)) && decide ((t[k].toNat : Int) ≤ 57))
          · have HB : Hid (Lx.numB t.data.toList most = false) := Lib.hid (by
              unfold Lx.numB
              rw [not_all_of Lx.digB t k hlt (by rw [HD.out, h1])]
              simp)
            have HV : Hid (Lx.numV t.data.toList most = 0) := Lib.hid (by unfold Lx.numV; rw [HB.out]; rfl)
            have H1 := Lib.hid h1
            clear h1
            go_wp2_with fail
            refine (r1between_any _ _ _ _).mono ?_
            rw [H1.out]
            rintro e w' ⟨rfl, rfl⟩
            go_wp2_with fail
            go_ret2
            exact ⟨ret_nb HV.out.symm HB.out.symm, rfl⟩
          · have HNX := Lib.hid (take_succ_all Lx.digB t k hlt)
            have HDV := Lib.hid (digV_succ t k hlt)
            have H1 := Lib.hid h1
            have hd1 : (48 : Int) ≤ (t[k].toNat : Int) := by simp at h1; omega
            have hd2 : (t[k].toNat : Int) ≤ 57 := by simp at h1; omega
            clear h1
            go_wp2_with fail
            refine (r1between_any _ _ _ _).mono ?_
            rw [H1.out]
            rintro e w' ⟨rfl, rfl⟩
            go_wp2_with fail
            refine ⟨⟨k + 1, hlt, rfl, congrArg (Value.int .i64) ?_, ?_⟩, ?_⟩
            · rw [HDV.out, ← HNV.out]
            · rw [HNX.out, HAL.out, HD.out, H1.out]; rfl
            · have e1 : (intOf (Value.int .i64 ((k : Int) + 1))).toNat = k + 1 := by show ((k : Int) + 1).toNat = _; omega
              have e2 : (intOf (Value.int .i64 (k : Int))).toNat = k := Int.toNat_natCast k
              omega
        · have hkt : k = t.size := by omega
          have HB : Hid (Lx.numB t.data.toList most = true) := Lib.hid (by
            have := HAL.out
            rw [List.take_of_length_le (by rw [hlen]; omega)] at this
            unfold Lx.numB
            rw [HPRE.out, HLEAD.out, this]
            rfl)
          have HV : Hid (Lx.numV t.data.toList most = n) := Lib.hid (by
            unfold Lx.numV
            rw [HB.out, if_pos rfl, HNV.out, List.take_of_length_le (by rw [hlen]; omega)])
          go_wp2_with fail
          go_ret2
          exact ⟨ret_nb HV.out.symm HB.out.symm, rfl⟩)
  · have HB : Hid (Lx.numB t.data.toList most = false) := Lib.hid (by
      unfold Lx.numB
      rw [hlen]
      have : (decide (1 ≤ t.size) && decide ((t.size : Int) ≤ most)) = false := by simp; omega
      rw [this]
      rfl)
    have HV : Hid (Lx.numV t.data.toList most = 0) := Lib.hid (by unfold Lx.numV; rw [HB.out]; rfl)
    by_cases hs : (t.size : Int) < 1
    · clear hg
      go_enter Tryz.func63, Tryz.ntmps63
      go_wp2_with fail
      go_ret2
      exact ⟨ret_nb HV.out.symm HB.out.symm, rfl⟩
    · have hs' : ¬ (t.size : Int) < 1 := hs
      have hm' : most < (t.size : Int) := by omega
      clear hg
      go_enter Tryz.func63, Tryz.ntmps63
      go_wp2_with fail
      go_ret2
      exact ⟨ret_nb HV.out.symm HB.out.symm, rfl⟩
end Go.Proofs.YtkmimjngmfdpmaaGreatDoor
namespace Go.Proofs.YtkmimjngmfdpmaaGreatDoor
open Go

theorem Lx.digVal {b : UInt8} (h : Lx.digB b = true) : Lib.digitVal b = some (b.toNat - 48) := by
  unfold Lib.digitVal
  rw [if_pos]
  simpa [Lx.digB] using h
theorem Lx.dec_from : ∀ (l : List UInt8) (acc : Nat), l.all Lx.digB = true → ∃ n : Nat, Lib.decFrom acc l = some n ∧ (n : Int) = l.foldl (fun n b => 10 * n + ((b.toNat : Int) - 48)) (acc : Int)
  | [], acc, _ => ⟨acc, rfl, rfl⟩
  | b :: r, acc, h => by
    rw [List.all_cons, Bool.and_eq_true] at h
    obtain ⟨n, h1, h2⟩ := Lx.dec_from r (acc * 10 + (b.toNat - 48)) h.2
    refine ⟨n, ?_, ?_⟩
    · unfold Lib.decFrom
      rw [Lx.digVal h.1]
      exact h1
    · rw [h2, List.foldl_cons]
      have hb : 48 ≤ b.toNat := by
        have := h.1
        simp [Lx.digB] at this
        omega
      congr 1
      omega
theorem Lx.atoi_dig {l : List UInt8} (h0 : l ≠ []) (h : l.all Lx.digB = true) : Lib.atoi l = some (Lx.digV l) := by
  cases l with
  | nil => exact absurd rfl h0
  | cons b r =>
    have hb : Lx.digB b = true := by rw [List.all_cons, Bool.and_eq_true] at h; exact h.1
    have hb2 : 48 ≤ b.toNat ∧ b.toNat ≤ 57 := by simpa [Lx.digB] using hb
    obtain ⟨n, h1, h2⟩ := Lx.dec_from (b :: r) 0 h
    have e1 : (b == 45) = false := by rw [beq_eq_false_iff_ne]; rintro rfl; exact absurd hb2.1 (by decide)
    have e2 : (b == 43) = false := by rw [beq_eq_false_iff_ne]; rintro rfl; exact absurd hb2.1 (by decide)
    show (if (b == 45) = true then (Lib.decNat r).map fun (m : Nat) => -(m : Int) else if (b == 43) = true then (Lib.decNat r).map fun (m : Nat) => (m : Int) else (Lib.decNat (b :: r)).map fun (m : Nat) => (m : Int)) = _
    rw [e1, e2]
    have e3 : Lib.decNat (b :: r) = some n := by unfold Lib.decNat; exact h1
    simp only [Bool.false_eq_true, if_false, e3, Option.map_some]
    rw [h2]
    rfl
end Go.Proofs.YtkmimjngmfdpmaaGreatDoor
namespace Go.Proofs.YtkmimjngmfdpmaaGreatDoor
open Go

def Lx.tenD : List UInt8 := [48, 49, 50, 51, 52, 53, 54, 55, 56, 57]
theorem Lx.ten_dig (b : UInt8) : Lx.tenD.contains b = Lx.digB b := by
  have h : ∀ n : Fin 256, Lx.tenD.contains (UInt8.ofNat n.val) = Lx.digB (UInt8.ofNat n.val) := by decide +kernel
  have := h ⟨b.toNat, b.toNat_lt⟩
  simpa using this
theorem drop_while_nil {α : Type} (p : α → Bool) : ∀ l : List α, l.dropWhile p = [] ↔ l.all p = true
  | [] => by simp
  | a :: l => by
    rw [List.dropWhile_cons, List.all_cons]
    cases h : p a
    · simp
    · simp [drop_while_nil p l]
theorem drop_while_all {α : Type} (p : α → Bool) : ∀ l : List α, (l.dropWhile p).all p = l.all p
  | [] => rfl
  | a :: l => by
    rw [List.dropWhile_cons]
    cases h : p a
    · simp
    · simp [h, drop_while_all p l]
theorem Lx.trim_dig (l : List UInt8) : (Lib.trimS l Lx.tenD = []) ↔ l.all Lx.digB = true := by
  have e : (fun b => Lx.tenD.contains b) = Lx.digB := funext Lx.ten_dig
  unfold Lib.trimS Lib.trimLeftS Lib.trimRightS
  simp only [e]
  rw [drop_while_nil, List.all_reverse, drop_while_all, List.all_reverse]
end Go.Proofs.YtkmimjngmfdpmaaGreatDoor
