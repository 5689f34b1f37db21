/- The line that Format's closure writes: words joined by blanks, and a line's end. ostraconref01.Number. -/
import Derived.Test.YtpmnpnlfgfleeaaGreatDoorMgFmtPlain
import Derived.Test.YtpmnpnlfgfleeaaGreatDoorMgClos
import Derived.Test.YtpmnpnlfgfleeaaGreatDoorMgClone
import Derived.Test.YtpmnpnlfgfleeaaGreatDoorMgShelfF
import Derived.Test.YtpmnpnlfgfleeaaGreatDoorMgText01
namespace Go.Proofs.YtpmnpnlfgfleeaaGreatDoor
open Go Go.RowKit

theorem isBuilder_below {B b : Nat} {bs : List Value} {w w' : World} (h : Lib.IsBuilder 95 5 B b bs w) (hb : Below w.heap.size w w') : Lib.IsBuilder 95 5 B b bs w' := by
  have key : ∀ p, Lib.BuilderAt 95 5 B b p bs w → Lib.BuilderAt 95 5 B b p bs w' := by
    rintro p ⟨hB, v, hbk, hown, hne⟩
    have hlt : b < w.heap.size := by
      rcases Nat.lt_or_ge b w.heap.size with h' | h'
      · exact h'
      · simp [Array.getElem?_eq_none h'] at hbk
    exact ⟨hB, v, (hb.block b hlt).trans hbk, keep_own hown hb, hne⟩
  exact h.elim (fun h => .inl (key _ h)) (fun h => .inr (key _ h))
def RetFL (b : Nat) (l : List UInt8) (w : World) (e : Ending) (w' : World) : Prop := e = .returned (.tuple #[]) ∧ Lib.IsBuilder 95 5 b b (Lib.byteCells l) w' ∧ Below b w w'
set_option maxRecDepth 100000 in
set_option maxHeartbeats 2000000 in
theorem Format1_any (b : Nat) (l : List UInt8) (v : Value) (ws : List ByteArray) (w : World) (hB : Lib.IsBuilder 95 5 b b (Lib.byteCells l) w) (hbw : b < w.heap.size) (hr : RdS w w.heap.size 1 encStr v ws) (h0 : 0 < ws.length) (hn : ws.length ≤ 10)
    (hsz : (Lx.lineL (ws.map (·.data.toList))).length ≤ 100000) (hl : l.length ≤ 1000000) :
    Calls Tryz.prog 50 #[v, .pointer (some ⟨b, 0, none⟩)] w (RetFL b (l ++ Lx.lineL (ws.map (·.data.toList))) w) := by
  have HB := Lib.hid hB
  obtain ⟨A, c, rfl, hlc, hc, hh⟩ := hr
  obtain ⟨g, off, rfl, hg, hcell⟩ := hh h0
  have HJ := Lib.hid (Tryz.strings_Join g off c ws ⟨#[32]⟩ w (fun j x hx => by have := hcell j x hx 0 (.string x) rfl; simpa using this) hg (by omega) hlc (by
    have : (Lx.lineL (ws.map (·.data.toList))).length = (Lib.join (ws.map (·.data.toList)) [32]).length + 1 := by unfold Lx.lineL; simp
    show (Lib.join (ws.map (·.data.toList)) [32]).length ≤ _
    omega))
  obtain ⟨j, hj⟩ : ∃ j : ByteArray, j = ⟨(Lib.join (ws.map (·.data.toList)) [32]).toArray⟩ := ⟨_, rfl⟩
  have HJ' : Hid (Calls Tryz.prog 52 #[.slice (some ⟨g, off, none⟩) ws.length c, .string ⟨#[32]⟩] w (fun e w' => e = .returned (.string j) ∧ Below w.heap.size w w')) := Lib.hid (by rw [hj]; exact HJ.out)
  have hjs : (j ++ ⟨#[10]⟩).data.toList = Lx.lineL (ws.map (·.data.toList)) := by rw [hj]; simp [Lx.lineL]
  have hjz : (j ++ (⟨#[10]⟩ : ByteArray)).size ≤ 100000 := by
    have h1 := congrArg List.length hjs
    have h2 : (j ++ (⟨#[10]⟩ : ByteArray)).data.toList.length = (j ++ (⟨#[10]⟩ : ByteArray)).size := rfl
    omega
  have hjz1 : j.size + 1 ≤ 100000 := by
    have e : (j ++ (⟨#[10]⟩ : ByteArray)).size = j.size + 1 := by rw [ByteArray.size_append]; rfl
    omega
  obtain ⟨L, hL⟩ : ∃ L, L = Lx.lineL (ws.map (·.data.toList)) := ⟨_, rfl⟩
  rw [← hL] at hjs ⊢
  have HJS := Lib.hid hjs
  clear hj HJ hcell hh hjs hL hsz hB
  go_enter Tryz.func50, Tryz.ntmps50
  go_wp2_with fail
  refine HJ'.out.mono ?_
  rintro e w1 ⟨rfl, hb1⟩
  have hs1 := hb1.size
  have HB1 := Lib.hid (isBuilder_below HB.out hb1)
  have HBL := Lib.hid hb1
  clear hb1
  go_wp2_with fail
  obtain ⟨z, hz⟩ : ∃ z, z = j ++ (⟨#[10]⟩ : ByteArray) := ⟨_, rfl⟩
  rw [← hz] at hjz ⊢
  have HJZ : Hid (z.data.toList = L) := Lib.hid (by rw [hz]; exact HJS.out)
  clear hz HJS
  have HWS := Lib.hid (WriteString_any b b l z w1 HB1.out (by omega) (by omega))
  refine HWS.out.mono ?_
  rintro e w2 ⟨rfl, hb2, hbl2⟩
  rw [HJZ.out] at hb2
  have HB2 := Lib.hid hb2
  have HBL2 := Lib.hid hbl2
  clear hb2 hbl2
  go_wp2_with fail
  go_end0
  exact ⟨rfl, HB2.out, (HBL.out.mono (by omega)).trans HBL2.out⟩
end Go.Proofs.YtpmnpnlfgfleeaaGreatDoor
namespace Go.Proofs.YtpmnpnlfgfleeaaGreatDoor
open Go Go.RowKit

/-- a number and whether it is one -/
def RetNB (n : Int) (b : Bool) (w : World) (e : Ending) (w' : World) : Prop := e = .returned (.tuple #[.int .i64 n, .bool b]) ∧ w' = w
theorem ret_nb {a b : Int} {c d : Bool} (h : a = b) (h' : c = d) : Ending.returned (.tuple #[.int .i64 a, .bool c]) = .returned (.tuple #[.int .i64 b, .bool d]) := by rw [h, h']
theorem digV_succ (t : ByteArray) (k : Nat) (h : k < t.size) : Lx.digV (t.data.toList.take (k + 1)) = 10 * Lx.digV (t.data.toList.take k) + ((t[k].toNat : Int) - 48) := by
  have hk : k < t.data.toList.length := h
  rw [List.take_succ_eq_append_getElem hk]
  unfold Lx.digV
  rw [List.foldl_append]
  rfl
theorem Lx.digV_bound : ∀ (l : List UInt8), l.all Lx.digB = true → 0 ≤ Lx.digV l ∧ Lx.digV l < 10 ^ l.length := by
  intro l
  refine Lx.list_rev_ind (P := fun l => l.all Lx.digB = true → 0 ≤ Lx.digV l ∧ Lx.digV l < 10 ^ l.length) (fun _ => by simp [Lx.digV]) (fun l a ih h => ?_) l
  rw [List.all_append, Bool.and_eq_true] at h
  obtain ⟨h1, h2⟩ := ih h.1
  have h3 : 48 ≤ a.toNat ∧ a.toNat ≤ 57 := by
    have := h.2
    simpa [Lx.digB] using this
  have e : Lx.digV (l ++ [a]) = 10 * Lx.digV l + ((a.toNat : Int) - 48) := by unfold Lx.digV; rw [List.foldl_append]; rfl
  rw [e, List.length_append, List.length_singleton, Int.pow_succ]
  constructor
  · omega
  · omega

theorem digB_in (c : UInt8) : Lx.digB c = (decide ((48 : Int) ≤ (c.toNat : Int)) && decide ((c.toNat : Int) ≤ 57)) := by
  rw [Bool.eq_iff_iff]; simp [Lx.digB]; omega
set_option maxRecDepth 100000 in
set_option maxHeartbeats 2000000 in
theorem r1Number_any (t : ByteArray) (most : Int) (w : World) (ht : t.size ≤ 1000000) (hm0 : 1 ≤ most) (hm : most ≤ 4) : Calls Tryz.prog 84 #[.string t, .int .i64 most] w (RetNB (Lx.numV t.data.toList most) (Lx.numB t.data.toList most) w) := by
  have hlen : t.data.toList.length = t.size := rfl
  by_cases hg : 1 ≤ t.size ∧ (t.size : Int) ≤ most
  · obtain ⟨hg1, hg2⟩ := hg
    have h0 : 0 < t.size := by omega
    have hz : t.data.toList[0]? = some t[0] := by rw [List.getElem?_eq_getElem (by rw [hlen]; exact h0)]; rfl
    have a1 : decide ((t.size : Int) < 1) = false := by simp; omega
    have a1' : ¬ (t.size : Int) < 1 := by omega
    have a2 : decide (most < (t.size : Int)) = false := by simp; omega
    have a2' : ¬ most < (t.size : Int) := by omega
    by_cases hc : t[0] = 48 ∧ 1 < t.size
    · have HN : Hid (Lx.numB t.data.toList most = false) := Lib.hid (by
        unfold Lx.numB
        rw [hz, hc.1, hlen]
        simp [hc.2])
      have HV : Hid (Lx.numV t.data.toList most = 0) := Lib.hid (by unfold Lx.numV; rw [HN.out]; rfl)
      have b1 : ((t[0].toNat : Int) == 48) = true := by rw [hc.1]; rfl
      have b1' : t[0] = 48 := hc.1
      have b2 : (1 : Int) < (t.size : Int) := by omega
      clear hz hc
      go_enter Tryz.func84, Tryz.ntmps84
      go_wp2_with fail
      go_ret2
      exact ⟨ret_nb HV.out.symm HN.out.symm, rfl⟩
    · have HLEAD : Hid ((!(decide (t.data.toList[0]? = some 48) && decide (1 < t.data.toList.length))) = true) := Lib.hid (by
        rw [hz, hlen]
        simp only [Option.some.injEq, Bool.not_eq_true', Bool.and_eq_false_iff, decide_eq_false_iff_not]
        by_cases q : t[0] = 48
        · exact .inr fun q2 => hc ⟨q, q2⟩
        · exact .inl q)
      have hcc : ¬ (t[0].toNat : Int) = 48 ∨ ((t[0].toNat : Int) = 48 ∧ (t.size : Int) ≤ 1) := by
        by_cases q : t[0] = 48
        · exact .inr ⟨by rw [q]; rfl, by have : ¬ 1 < t.size := fun q2 => hc ⟨q, q2⟩; omega⟩
        · left
          intro e
          exact q (UInt8.toNat_inj.1 (by have : (48 : UInt8).toNat = 48 := rfl; omega))
      have HPRE : Hid ((decide (1 ≤ t.data.toList.length) && decide ((t.data.toList.length : Int) ≤ most)) = true) := Lib.hid (by rw [hlen]; simp; omega)
      clear hz hc
      have ht4 : t.size ≤ 4 := by omega
      clear a1 a2
      rcases hcc with hq | ⟨hq, hq1⟩ <;> (
      go_enter Tryz.func84, Tryz.ntmps84
      go_upto_region 3 with fail
      go_wp2_with fail
      go_loop [6, 7] (fun v q => ∃ k : Nat, k ≤ t.size ∧ q = .int .i64 k ∧ v = .int .i64 (Lx.digV (t.data.toList.take k)) ∧ (t.data.toList.take k).all Lx.digB = true) (fun _ q => t.size - (intOf q).toNat)
      case atStart => exact ⟨0, Nat.zero_le _, rfl, rfl, rfl⟩
      case round =>
        obtain ⟨k, hk, rfl, rfl, hal⟩ := hrel
        have HAL := Lib.hid hal
        have hbd := Lx.digV_bound _ hal
        obtain ⟨n, hn⟩ : ∃ n, n = Lx.digV (t.data.toList.take k) := ⟨_, rfl⟩
        rw [← hn] at hbd ⊢
        have HNV := Lib.hid hn
        have hn0 : 0 ≤ n := hbd.1
        have hn1 : n ≤ 10000 := by
          have h1 := hbd.2
          have h2 : (10 : Int) ^ (t.data.toList.take k).length ≤ 10 ^ 4 := by
            have : (t.data.toList.take k).length ≤ 4 := by rw [List.length_take]; omega
            exact_mod_cast Nat.pow_le_pow_right (by omega : 1 ≤ 10) this
          have h3 : (10 : Int) ^ 4 = 10000 := by decide
          omega
        clear hal hbd hn
        by_cases hlt : k < t.size
        · have HD := Lib.hid (digB_in t[k])
          cases h1 : (decide ((48 : Int) ≤ (t[k].toNat : Int)) && decide ((t[k].toNat : Int) ≤ 57))
          · have HB : Hid (Lx.numB t.data.toList most = false) := Lib.hid (by
              unfold Lx.numB
              rw [not_all_of Lx.digB t k hlt (by rw [HD.out, h1])]
              simp)
            have HV : Hid (Lx.numV t.data.toList most = 0) := Lib.hid (by unfold Lx.numV; rw [HB.out]; rfl)
            have H1 := Lib.hid h1
            clear h1
            go_wp2_with fail
            refine (r1between_any _ _ _ _).mono ?_
            rw [H1.out]
            rintro e w' ⟨rfl, rfl⟩
            go_wp2_with fail
            go_ret2
            exact ⟨ret_nb HV.out.symm HB.out.symm, rfl⟩
          · have HNX := Lib.hid (take_succ_all Lx.digB t k hlt)
            have HDV := Lib.hid (digV_succ t k hlt)
            have H1 := Lib.hid h1
            have hd1 : (48 : Int) ≤ (t[k].toNat : Int) := by simp at h1; omega
            have hd2 : (t[k].toNat : Int) ≤ 57 := by simp at h1; omega
            clear h1
            go_wp2_with fail
            refine (r1between_any _ _ _ _).mono ?_
            rw [H1.out]
            rintro e w' ⟨rfl, rfl⟩
            go_wp2_with fail
            refine ⟨⟨k + 1, hlt, rfl, congrArg (Value.int .i64) ?_, ?_⟩, ?_⟩
            · rw [HDV.out, ← HNV.out]
            · rw [HNX.out, HAL.out, HD.out, H1.out]; rfl
            · have e1 : (intOf (Value.int .i64 ((k : Int) + 1))).toNat = k + 1 := by show ((k : Int) + 1).toNat = _; omega
              have e2 : (intOf (Value.int .i64 (k : Int))).toNat = k := Int.toNat_natCast k
              omega
        · have hkt : k = t.size := by omega
          have HB : Hid (Lx.numB t.data.toList most = true) := Lib.hid (by
            have := HAL.out
            rw [List.take_of_length_le (by rw [hlen]; omega)] at this
            unfold Lx.numB
            rw [HPRE.out, HLEAD.out, this]
            rfl)
          have HV : Hid (Lx.numV t.data.toList most = n) := Lib.hid (by
            unfold Lx.numV
            rw [HB.out, if_pos rfl, HNV.out, List.take_of_length_le (by rw [hlen]; omega)])
          go_wp2_with fail
          go_ret2
          exact ⟨ret_nb HV.out.symm HB.out.symm, rfl⟩)
  · have HB : Hid (Lx.numB t.data.toList most = false) := Lib.hid (by
      unfold Lx.numB
      rw [hlen]
      have : (decide (1 ≤ t.size) && decide ((t.size : Int) ≤ most)) = false := by simp; omega
      rw [this]
      rfl)
    have HV : Hid (Lx.numV t.data.toList most = 0) := Lib.hid (by unfold Lx.numV; rw [HB.out]; rfl)
    by_cases hs : (t.size : Int) < 1
    · clear hg
      go_enter Tryz.func84, Tryz.ntmps84
      go_wp2_with fail
      go_ret2
      exact ⟨ret_nb HV.out.symm HB.out.symm, rfl⟩
    · have hs' : ¬ (t.size : Int) < 1 := hs
      have hm' : most < (t.size : Int) := by omega
      clear hg
      go_enter Tryz.func84, Tryz.ntmps84
      go_wp2_with fail
      go_ret2
      exact ⟨ret_nb HV.out.symm HB.out.symm, rfl⟩
end Go.Proofs.YtpmnpnlfgfleeaaGreatDoor
