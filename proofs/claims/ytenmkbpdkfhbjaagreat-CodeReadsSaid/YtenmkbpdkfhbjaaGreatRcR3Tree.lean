/- The document's reader: an item of the tree code. -/
import Derived.Test.YtenmkbpdkfhbjaaGreatRcR3Word
import Derived.Test.YtenmkbpdkfhbjaaGreatRcR3Part
namespace Cd
theorem found_small {s : List UInt8} {k : Nat} (h : kindAt s[k]? < 2) : reachW s k = 0 ∧ foundW s k = 0 := by
  have h0 : kindAt s[k]? = 0 := by have := kindAt_in s[k]?; omega
  unfold reachW foundW
  rw [if_pos h0, if_pos h0]
  exact ⟨rfl, rfl⟩
theorem found_is (s : List UInt8) (k : Nat) : (foundW s k = 0 ∨ foundW s k = kindAt s[k]?) ∧ (kindAt s[k]? ≠ 0 → (foundW s k = kindAt s[k]? ↔ reachW s k = (wordOf (kindAt s[k]?)).length)) := by
  unfold foundW reachW
  by_cases h0 : kindAt s[k]? = 0
  · rw [if_pos h0, if_pos h0]
    exact ⟨.inl rfl, fun h => absurd h0 h⟩
  · rw [if_neg h0, if_neg h0]
    by_cases h1 : commonL (s.drop k) (wordOf (kindAt s[k]?)) = (wordOf (kindAt s[k]?)).length
    · rw [if_pos h1]
      exact ⟨.inr rfl, fun _ => ⟨fun _ => h1, fun _ => rfl⟩⟩
    · rw [if_neg h1]
      exact ⟨.inl rfl, fun h => ⟨fun q => absurd q.symm h, fun q => absurd q h1⟩⟩
theorem reach_le (s : List UInt8) (k : Nat) : reachW s k ≤ 6 ∧ k + reachW s k ≤ max k s.length := by
  unfold reachW
  split
  · omega
  · have := common_bd (s.drop k) (wordOf (kindAt s[k]?))
    have h2 := wordOf_len (kindAt s[k]?)
    rw [List.length_drop] at this
    omega
end Cd
namespace Go.Proofs.YtenmkbpdkfhbjaaGreat
open Go Go.RowKit

set_option maxRecDepth 100000 in
set_option maxHeartbeats 32000000 in
theorem item3_step (R : Nat) (L : Sg.SList) (As : Option Addr) (cs : Nat) (s : ByteArray) (kind : Int) (hkd : kind = 2) (f k : Nat) (u : Int) (w : World) (h : R3Is R L As cs s kind k u w) (hs : s.size ≤ 1000000) (hv : Sg.checkV L = 0) (hl : LR w R L As cs)
    (ih : ∀ (j : Nat) (u : Int) (W : World), k < j → w.grownBy W (some R) → R3Is R L As cs s kind j u W → Calls Tryz.prog 67 #[.pointer (some ⟨R, 0, none⟩)] W (RetR R L As cs s kind u (Cd.treeG s.data.toList f j) W)) :
    Calls Tryz.prog 67 #[.pointer (some ⟨R, 0, none⟩)] w (RetR R L As cs s kind u (Cd.treeG s.data.toList (f + 1) k) w) := by
  have HTK := Lib.hid (fun (j : Nat) (u : Int) (c : UInt8) (W : World) (hr : R3Is R L As cs s kind j u W) => takes3_any R L As cs s kind j u c W hr hs)
  have HRl := Lib.hid h.lt
  have hkl0 := h.le
  have HT0 := Lib.hid (HTK.out k u 40 w h)
  unfold RetTk at HT0
  have HQ : Hid (Cd.treeG s.data.toList (f + 1) k = if Cd.sees s.data.toList k 63 = true then
      .ok (.mk (Cd.gapN ((s.data.toList.drop k).takeWhile fun c => decide (c = 63)).length ((s.data.toList.drop k).takeWhile fun c => decide (c = 63)).length) [] 0 []) (k + ((s.data.toList.drop k).takeWhile fun c => decide (c = 63)).length)
    else if Cd.sees s.data.toList k 40 = true then (Cd.wordG s.data.toList (k + 1)).bind fun q k1 => (Cd.must s.data.toList k1 32).bind fun _ k2 => (Cd.sepG s.data.toList (Cd.treeG s.data.toList f) 32 (Cd.N s.data.toList) k2).bind fun xs k3 => (Cd.must s.data.toList k3 41).bind fun _ k4 => .ok (.mk (Cd.kindN q) [] 0 xs) k4
    else Cd.glyphG s.data.toList false k) := Lib.hid (by rw [Cd.treeG])
  cases hsee : Cd.sees s.data.toList k 40
  · rw [hsee] at HT0
    have HQ2 : Hid (Cd.treeG s.data.toList (f + 1) k = Cd.leaf3G s.data.toList kind k) := Lib.hid (by
      rw [HQ.out, if_neg (show ¬ Cd.sees s.data.toList k 40 = true by rw [hsee]; exact Bool.false_ne_true)]
      unfold Cd.leaf3G
      rw [if_neg (show ¬ kind = 1 by omega)])
    have HL := Lib.hid (fun (W : World) (hg : w.grownBy W (some R)) (hr : R3Is R L As cs s kind k u W) => leaf3_any R L As cs s kind (.inr hkd) k u W hr hs hv (hl.go hg))
    clear hsee h hl ih
    go_enter Tryz.func67, Tryz.ntmps67
    go_wp2_with fail
    refine HT0.out.mono ?_
    rintro e w1 ⟨rfl, hg1, hr1⟩
    rw [if_neg Bool.false_ne_true] at hr1
    have HG := Lib.hid (HL.out w1 hg1 hr1)
    have HG1 := Lib.hid hg1
    clear hg1 hr1 HT0
    go_wp2_with fail
    refine HG.out.mono ?_
    intro e w2 hr
    obtain ⟨A, n, c, b, rfl, hr2⟩ := hr.tup
    have HRES := Lib.hid (retR_trans HG1.out hr2)
    clear hr hr2
    go_wp2_with fail
    refine bodyPost_ret (results_tmp2 rfl _ _ _) rfl ?_
    rw [HQ2.out]
    exact HRES.out
  rw [hsee] at HT0
  obtain ⟨p, hp⟩ : ∃ p, p = Cd.treeG s.data.toList f := ⟨_, rfl⟩
  have HOV : Hid (∀ (j : Nat) (u : Int) (W : World), k < j → w.grownBy W (some R) → R3Is R L As cs s kind j u W → Calls Tryz.prog 67 #[.pointer (some ⟨R, 0, none⟩)] W (RetR R L As cs s kind u (p j) W)) := Lib.hid fun j u' W hj hg hr => by
    rw [hp]
    exact ih j u' W hj hg hr
  have HMO : Hid (∀ j, j ≤ (p j).pos) := Lib.hid fun j => by rw [hp]; exact Cd.tree_mono f j
  have HSZ : Hid (∀ j, Cd.Sz j (p j)) := Lib.hid fun j => by rw [hp]; exact Cd.sz_tree f j
  have HQ2 : Hid (Cd.treeG s.data.toList (f + 1) k = (if Cd.foundW s.data.toList (k + 1) = 0 then .bad (k + 1 + Cd.reachW s.data.toList (k + 1)) else .ok (Cd.foundW s.data.toList (k + 1)) (k + 1 + Cd.reachW s.data.toList (k + 1)) : Cd.R Int).bind fun q k1 => (Cd.must s.data.toList k1 32).bind fun _ k2 => (Cd.sepG s.data.toList p 32 (Cd.N s.data.toList) k2).bind fun xs k3 => (Cd.must s.data.toList k3 41).bind fun _ k4 => .ok (.mk (Cd.kindN q) [] 0 xs) k4) := Lib.hid (by
    rw [HQ.out, if_neg (by rw [sees_other hsee (by decide)]; exact Bool.false_ne_true), if_pos hsee, Cd.word_3, hp])
  have hkl : k < s.size := by have := Cd.sees_lt' hsee; simpa using this
  obtain ⟨Q, hQ⟩ : ∃ Q, Q = Cd.kindAt s.data.toList[k + 1]? := ⟨_, rfl⟩
  obtain ⟨C, hC⟩ : ∃ C, C = Cd.reachW s.data.toList (k + 1) := ⟨_, rfl⟩
  obtain ⟨K, hK⟩ : ∃ K, K = Cd.foundW s.data.toList (k + 1) := ⟨_, rfl⟩
  have HQI : Hid (Q = 0 ∨ Q = 2 ∨ Q = 3 ∨ Q = 4 ∨ Q = 5 ∨ Q = 7) := Lib.hid (by rw [hQ]; exact Cd.kindAt_in _)
  have HSM : Hid (Q < 2 → C = 0 ∧ K = 0) := Lib.hid fun q => by rw [hC, hK]; rw [hQ] at q; exact Cd.found_small q
  have HFI : Hid ((K = 0 ∨ K = Q) ∧ (Q ≠ 0 → (K = Q ↔ C = (Cd.wordOf Q).length))) := Lib.hid (by rw [hK, hQ, hC]; exact Cd.found_is _ _)
  have HCW : Hid (∀ i : Int, i = 2 ∨ i = 3 ∨ i = 4 ∨ i = 5 ∨ i = 7 → Cd.commonL (s.data.toList.drop (k + 1)) (Cd.wordOf i) = if i = Q then C else 0) := Lib.hid fun i hi => by rw [hQ, hC]; exact Cd.word_common _ _ hi
  have hC6 : C ≤ 6 := by rw [hC]; exact (Cd.reach_le _ _).1
  have hCs : k + 1 + C ≤ s.size := by
    have := (Cd.reach_le s.data.toList (k + 1)).2
    rw [← hC] at this
    have e : s.data.toList.length = s.size := by simp
    omega
  rw [← hC, ← hK] at HQ2
  clear hsee h hl ih hp HQ hQ hC hK
  obtain ⟨k0, hk0⟩ : ∃ k0, k0 = k + 1 := ⟨_, rfl⟩
  rw [← hk0] at HQ2 HCW hCs
  have hkk : k < k0 := by omega
  go_enter Tryz.func67, Tryz.ntmps67
  go_wp2_with fail
  refine HT0.out.mono ?_
  rintro e w1 ⟨rfl, hg1, hr1⟩
  rw [if_pos trivial, ← hk0] at hr1
  have HG1 := Lib.hid hg1
  have HR1 := Lib.hid hr1
  clear hg1 hr1 HT0 hk0
  go_upto_block 0 with fail
  go_cut [4, 5] (fun b q wc => b = .int .i64 (C : Int) ∧ q = .int .i64 K ∧ ∃ m, wc = w1.drewN m)
  case first =>
    obtain ⟨-, -, c2, -, c4, -, -, -, -⟩ := HR1.out.at
    have HC24 := Lib.hid (⟨c2, c4⟩ : w1.cell? ⟨R, 2, none⟩ = some (.string s) ∧ w1.cell? ⟨R, 4, none⟩ = some (.int .i64 (k0 : Int)))
    clear c2 c4
    go_wp2_with fail
    go_loopg [4, 5, 6] 6 (fun g b q v wr => ∃ (i m b0 : Nat) (q0 : Int), 2 ≤ i ∧ i ≤ 8 ∧ g = 8 - i ∧ v = .int .i64 (i : Int) ∧ b = .int .i64 (b0 : Int) ∧ q = .int .i64 q0 ∧ b0 = (if Q < i then C else 0) ∧ q0 = (if Q < i then K else 0) ∧ wr = w1.drewN m)
    case atStart => exact ⟨2, 0, 0, 0, Nat.le_refl _, by omega, rfl, rfl, rfl, rfl, by
      split
      · rename_i q; rw [(HSM.out q).1]
      · rfl, by
      split
      · rename_i q; rw [(HSM.out q).2]
      · rfl, rfl⟩
    case round =>
      obtain ⟨i, m, b0, q0, hi2, hi8, rfl, rfl, rfl, rfl, hb0, hq0, hwr⟩ := hrel
      have HB0 := Lib.hid hb0
      have HQ0 := Lib.hid hq0
      have HWR := Lib.hid hwr
      have c2 : wr.cell? ⟨R, 2, none⟩ = some (.string s) := by rw [hwr]; exact HC24.out.1
      have c4 : wr.cell? ⟨R, 4, none⟩ = some (.int .i64 (k0 : Int)) := by rw [hwr]; exact HC24.out.2
      clear hb0 hq0 hwr
      by_cases hi : i ≤ 7
      · have hiI : (i : Int) ≤ 7 := by omega
        by_cases hi6 : i = 6
        · have t6 : ((i : Int) == 6) = true := by simp [hi6]
          have HI6 := Lib.hid hi6
          clear hi6
          go_wp2_with fail
          go_roundg (8 - (i + 1))
          case measure => omega
          case rel => exact ⟨i + 1, m, b0, q0, by omega, by omega, rfl, by go_num, rfl, rfl, by
            rw [HB0.out]
            have h1 := HI6.out
            have h2 := HQI.out
            by_cases q : Q < (i : Int)
            · rw [if_pos q, if_pos (by omega)]
            · rw [if_neg q, if_neg (by omega)], by
            rw [HQ0.out]
            have h1 := HI6.out
            have h2 := HQI.out
            by_cases q : Q < (i : Int)
            · rw [if_pos q, if_pos (by omega)]
            · rw [if_neg q, if_neg (by omega)], HWR.out⟩
        · have t6 : ((i : Int) == 6) = false := by simp; omega
          have hii : (i : Int) = 2 ∨ (i : Int) = 3 ∨ (i : Int) = 4 ∨ (i : Int) = 5 ∨ (i : Int) = 7 := by omega
          obtain ⟨Wd, hWd⟩ : ∃ Wd, Wd = Cd.bs (Cd.wordOf i) := ⟨_, rfl⟩
          have hWs : Wd.size = (Cd.wordOf i).length := by rw [hWd]; rfl
          have hWp : 0 < Wd.size := by
            rw [hWs]
            rcases hii with e | e | e | e | e <;> rw [e] <;> decide
          have hWm : Wd.size ≤ 6 := by rw [hWs]; exact Cd.wordOf_len _
          obtain ⟨c, hc⟩ : ∃ c, c = Cd.commonL (s.data.toList.drop k0) (Cd.wordOf i) := ⟨_, rfl⟩
          have HCV : Hid (c = if (i : Int) = Q then C else 0) := Lib.hid (by rw [hc]; exact HCW.out i hii)
          have HWD : Hid (∀ W', Calls Tryz.prog 93 #[.int .i64 (i : Int)] W' (fun e w' => e = .returned (.string Wd) ∧ w' = W')) := Lib.hid fun W' => by rw [hWd]; exact r3word_any i W'
          have HCM : Hid (∀ W', Calls Tryz.prog 92 #[.string (s.extract k0 s.size), .string Wd] W' (fun e w' => e = .returned (.int .i64 (c : Int)) ∧ ∃ m, w' = W'.drewN m)) := Lib.hid fun W' => by
            have h1 := common3_any (s.extract k0 s.size) Wd W' (by simp; omega)
            have h2 : (s.extract k0 s.size).data.toList = s.data.toList.drop k0 := by
              rw [Lib.extract_data]
              rw [List.take_of_length_le (by simp)]
            have h3 : Wd.data.toList = Cd.wordOf i := by rw [hWd]; rfl
            rw [h2, h3, ← hc] at h1
            exact h1
          have hk0I : (0 : Int) ≤ (k0 : Int) := by omega
          have hk0s : (k0 : Int) ≤ (s.size : Int) := by omega
          have hk0n : decide (k0 ≤ s.size) = true := by simp; omega
          obtain ⟨z, hz⟩ : ∃ z, ((c : Int) == (Wd.size : Int)) = z := ⟨_, rfl⟩
          have HZ : Hid (z = decide (c = (Cd.wordOf i).length)) := Lib.hid (by
            rw [← hz, ← hWs]
            by_cases q : c = Wd.size
            · rw [q]; simp
            · rw [decide_eq_false q]; simp; omega)
          have hcm : c ≤ 6 := by
            have := HCV.out
            split at this <;> omega
          have HMX : Hid (((max b0 c : Nat) : Int) = max (b0 : Int) (c : Int)) := Lib.hid (by omega)
          have HNB : Hid (max b0 c = if Q < ((i + 1 : Nat) : Int) then C else 0) := Lib.hid (by
            rw [HB0.out, HCV.out]
            by_cases q1 : Q < (i : Int)
            · rw [if_pos q1, if_neg (by omega), if_pos (by omega)]
              omega
            · rw [if_neg q1]
              by_cases q2 : (i : Int) = Q
              · rw [if_pos q2, if_pos (by omega)]
                omega
              · rw [if_neg q2, if_neg (by omega)]
                rfl)
          have HNQ : Hid ((if z = true then (i : Int) else q0) = if Q < ((i + 1 : Nat) : Int) then K else 0) := Lib.hid (by
            rw [HZ.out, HQ0.out]
            by_cases q2 : (i : Int) = Q
            · have h3 := (HFI.out.2 (by omega))
              have h4 := HCV.out
              rw [if_pos q2] at h4
              have h5 := HFI.out.1
              rw [if_pos (show Q < ((i + 1 : Nat) : Int) by omega), if_neg (show ¬ Q < (i : Int) by omega), h4, q2]
              by_cases q3 : C = (Cd.wordOf Q).length
              · rw [if_pos (by simpa using q3)]
                exact (h3.2 q3).symm
              · rw [if_neg (by simpa using q3)]
                rcases h5 with e | e
                · exact e.symm
                · exact absurd (h3.1 e) q3
            · have h4 := HCV.out
              rw [if_neg q2] at h4
              have h6 : ¬ c = (Cd.wordOf i).length := by rw [← hWs, h4]; omega
              rw [if_neg (by simpa using h6)]
              by_cases q1 : Q < (i : Int)
              · rw [if_pos q1, if_pos (by omega)]
              · rw [if_neg q1, if_neg (by omega)])
          clear hWd hWs hc hii hi6
          go_wp2_with fail
          go_quiet (first
            | (go_at_call 93; exact Calls.quiet_of_same (HWD.out _))
            | (go_at_call 92; exact Calls.quiet_of (HCM.out _)))
          go_wp2_with fail
          refine (HWD.out _).mono ?_
          rintro e w5 ⟨rfl, rfl⟩
          cases z
          · go_wp2_with fail
            go_roundg (8 - (i + 1))
            case measure => omega
            case rel => exact ⟨i + 1, m + nq, max b0 c, q0, by omega, by omega, rfl, by go_num, by rw [HMX.out], rfl, HNB.out, HNQ.out, by rw [HWR.out, World.drewN_drewN]⟩
          · go_wp2_with fail
            go_roundg (8 - (i + 1))
            case measure => omega
            case rel => exact ⟨i + 1, m + nq, max b0 c, i, by omega, by omega, rfl, by go_num, by rw [HMX.out], rfl, HNB.out, HNQ.out, by rw [HWR.out, World.drewN_drewN]⟩
      · have hiI : ¬ (i : Int) ≤ 7 := by omega
        go_wp2_with fail
        go_meet
        case rel => exact ⟨by
          rw [HB0.out, if_pos (by have := HQI.out; omega)], by
          rw [HQ0.out, if_pos (by have := HQI.out; omega)], m, HWR.out⟩
  case rest =>
    obtain ⟨rfl, rfl, m, hm⟩ := hcut
    have hr1 := HR1.out.below (drew_below m)
    rw [← hm] at hr1
    obtain ⟨-, -, -, -, c4, -, f4, -, -⟩ := hr1.at
    have HGm : Hid (w.grownBy wc (some R)) := Lib.hid (by rw [hm]; exact grown_drew' HG1.out m)
    have HRm := Lib.hid hr1
    clear hm hr1
    obtain ⟨k1, hk1⟩ : ∃ k1, k1 = k0 + C := ⟨_, rfl⟩
    have HK1I : Hid ((k0 : Int) + (C : Int) = (k1 : Int)) := Lib.hid (by omega)
    have hk1s : k1 ≤ s.size := by omega
    have hkk1 : k < k1 := by omega
    have HK1 : Hid (K ≠ 1) := Lib.hid (by have h1 := HFI.out.1; have h2 := HQI.out; omega)
    rw [← hk1] at HQ2
    clear hk1
    go_upto_region 13 with fail
    rw [HK1I.out]
    obtain ⟨w3, hw3⟩ : ∃ w3, w3 = wc.setCell ⟨R, 4, none⟩ (.int .i64 (k1 : Int)) := ⟨_, rfl⟩
    rw [← hw3]
    have HR3 : Hid (R3Is R L As cs s kind k1 u w3) := Lib.hid (by rw [hw3]; exact HRm.out.put hk1s)
    have HG3 : Hid (w.grownBy w3 (some R)) := Lib.hid (by rw [hw3]; exact grown_after HGm.out (grown_set _ _ _ _) (.inl rfl))
    clear hw3 c4 f4 HK1I HCW HSM HQI HFI
    by_cases hK0 : K = 0
    · have tk : (K == 0) = true := by simp [hK0]
      have HQB : Hid (Cd.treeG s.data.toList (f + 1) k = .bad k1) := Lib.hid (by rw [HQ2.out, if_pos hK0]; rfl)
      clear hK0
      go_wp2_with fail
      refine bodyPost_ret (results_tmp2 rfl _ _ _) rfl ?_
      exact retR_bad HG3.out HR3.out HQB.out
    have tk : (K == 0) = false := by simp [hK0]
    have HQ3 : Hid (Cd.treeG s.data.toList (f + 1) k = (Cd.must s.data.toList k1 32).bind fun _ k2 => (Cd.sepG s.data.toList p 32 (Cd.N s.data.toList) k2).bind fun xs k3 => (Cd.must s.data.toList k3 41).bind fun _ k4 => .ok (.mk (Cd.kindN K) [] 0 xs) k4) := Lib.hid (by rw [HQ2.out, if_neg hK0]; rfl)
    clear hK0
    have HS3 := Lib.hid (sees3_any R L As cs s kind k1 u 32 w3 HR3.out)
    unfold RetB3 at HS3
    cases hse : Cd.sees s.data.toList k1 32
    · rw [hse] at HS3
      have HQB : Hid (Cd.treeG s.data.toList (f + 1) k = .bad k1) := Lib.hid (by rw [HQ3.out]; unfold Cd.must; rw [if_neg (by rw [hse]; exact Bool.false_ne_true)]; rfl)
      clear hse
      go_wp2_with fail
      refine HS3.out.mono ?_
      rintro e w4 ⟨rfl, hb4⟩
      have HB4 := Lib.hid hb4
      clear hb4
      go_wp2_with fail
      refine bodyPost_ret (results_tmp2 rfl _ _ _) rfl ?_
      exact retR_bad (grown_below HG3.out HB4.out) (HR3.out.below HB4.out) HQB.out
    rw [hse] at HS3
    obtain ⟨T, hT⟩ : ∃ T, T = Cd.cont [] (Cd.restG s.data.toList p 32 (Cd.N s.data.toList) k1) := ⟨_, rfl⟩
    have HQT : Hid (Cd.treeG s.data.toList (f + 1) k = T.bind fun xs k3 => (Cd.must s.data.toList k3 41).bind fun _ k4 => .ok (.mk (Cd.kindN K) [] 0 xs) k4) := Lib.hid (by
      rw [HQ3.out, hT]
      unfold Cd.must Cd.restG
      rw [if_pos hse, if_pos hse]
      simp only [Cd.R.bind]
      cases Cd.sepG s.data.toList p 32 (Cd.N s.data.toList) (k1 + 1) <;> rfl)
    have HT := Lib.hid hT
    clear hse hT HQ3 HQ2
    go_wp2_with fail
    refine HS3.out.mono ?_
    rintro e w4 ⟨rfl, hb4⟩
    have HL4 : Hid (Lp3 w R L As cs s kind u p 32 T k1 k1 (Cd.N s.data.toList) (.slice none 0 0) [] w4) := Lib.hid ⟨K3.zero (grown_below HG3.out hb4) (HR3.out.below hb4) HRl.out, HT.out.symm, by unfold Cd.N; omega, Nat.le_refl _⟩
    clear hb4 HS3
    go_upto_block 0 with fail
    go_wp2_with fail
    go_loopg [8] (s.size - k1 + 1) (fun g v wr => ∃ xs j n, g = s.size - j + 1 ∧ Lp3 w R L As cs s kind u p 32 T k1 j n v xs wr)
    case atStart => exact ⟨[], k1, _, rfl, HL4.out⟩
    case round =>
      clear HL4
      obtain ⟨xs, j, n, rfl, hl⟩ := hrel
      have HL := Lib.hid hl
      obtain ⟨Ak, ck, rfl⟩ := hl.st.form
      have HI := Lib.hid (HTK.out j _ 32 wr hl.st.r)
      unfold RetTk at HI
      clear hl
      cases hsee : Cd.sees s.data.toList j 32
      · rw [hsee] at HI
        have HT2 : Hid (T = .ok xs j) := Lib.hid (by rw [← HL.out.tot]; exact Cd.rest_stop hsee)
        have HQ4 : Hid (Cd.treeG s.data.toList (f + 1) k = (Cd.must s.data.toList j 41).bind fun _ k4 => .ok (.mk (Cd.kindN K) [] 0 xs) k4) := Lib.hid (by rw [HQT.out, HT2.out]; rfl)
        clear hsee
        go_wp2_with fail
        refine HI.out.mono ?_
        rintro e w5 ⟨rfl, hg5, hr5⟩
        rw [if_neg Bool.false_ne_true] at hr5
        have HK5 := Lib.hid (HL.out.st.call hg5 hr5 (Nat.le_refl _))
        have HW5 := Lib.hid (K3.wrap (q := K) HK5.out HK1.out hs)
        clear hg5 hr5 HI
        go_wp2_with fail
        refine HW5.out.mono ?_
        rintro e w6 ⟨A6, c6, rfl, -, hg6, A7, c7, he6, hr6, hx6⟩
        injection he6 with he6
        injection he6 with he6
        simp only [Array.mk.injEq, List.cons.injEq, Value.slice.injEq] at he6
        obtain ⟨⟨rfl, -, rfl⟩, -⟩ := he6
        have HT6 := Lib.hid (HTK.out j _ 41 w6 hr6)
        unfold RetTk at HT6
        have HG6 := Lib.hid hg6
        have HX6 := Lib.hid hx6
        clear hg6 hr6 hx6
        cases hse : Cd.sees s.data.toList j 41
        · rw [hse] at HT6
          have HQB : Hid (Cd.treeG s.data.toList (f + 1) k = .bad j) := Lib.hid (by rw [HQ4.out]; unfold Cd.must; rw [if_neg (by rw [hse]; exact Bool.false_ne_true)]; rfl)
          clear hse
          go_wp2_with fail
          refine HT6.out.mono ?_
          rintro e w7 ⟨rfl, hg7, hr7⟩
          rw [if_neg Bool.false_ne_true] at hr7
          have HG7 := Lib.hid (grown_trans HG6.out hg7)
          have HR7 := Lib.hid hr7
          clear hg7 hr7
          go_wp2_with fail
          refine bodyPost_ret (results_tmp2 rfl _ _ _) rfl ?_
          exact retR_bad HG7.out HR7.out HQB.out
        · rw [hse] at HT6
          have HQB : Hid (Cd.treeG s.data.toList (f + 1) k = .ok (.mk (Cd.kindN K) [] 0 xs) (j + 1)) := Lib.hid (by rw [HQ4.out]; unfold Cd.must; rw [if_pos hse]; rfl)
          clear hse
          go_wp2_with fail
          refine HT6.out.mono ?_
          rintro e w7 ⟨rfl, hg7, hr7⟩
          rw [if_pos trivial] at hr7
          have HRES : Hid (RetR R L As cs s kind u (Cd.treeG s.data.toList (f + 1) k) w (.returned (.tuple #[.slice A6 (Cd.nodI L (.mk (Cd.kindN K) [] 0 xs)).length c6, .bool true])) w7) := Lib.hid (by
            rw [HQB.out]
            exact ⟨grown_trans HG6.out hg7, A6, c6, rfl, hr7, HX6.out.keep fun b hb => ⟨⟨hb.1, Nat.lt_of_lt_of_le hb.2 hg7.size⟩, hg7.block b hb.2 fun e => by cases e; have := hb.1; have := HRl.out; omega⟩⟩)
          clear hg7 hr7
          go_wp2_with fail
          refine bodyPost_ret (results_tmp2 rfl _ _ _) rfl ?_
          exact HRES.out
      · rw [hsee] at HI
        have hjs := Cd.sees_lt' hsee
        have HTB := Lib.hid (fun (jb : Nat) (hp : p (j + 1) = .bad jb) => (HL.out.tot).symm.trans (Cd.rest_bad hsee HL.out.fuel hp))
        have HTM := Lib.hid (fun (y : Cd.Item) (j1 : Nat) (hp : p (j + 1) = .ok y j1) (hk : j + 1 ≤ j1) => Cd.rest_more (xs := xs) hsee HL.out.fuel hp hk)
        clear hsee
        go_wp2_with fail
        refine HI.out.mono ?_
        rintro e w5 ⟨rfl, hg5, hr5⟩
        rw [if_pos trivial] at hr5
        have HK5 := Lib.hid (HL.out.st.call hg5 hr5 (Nat.le_succ _))
        have HG5 := Lib.hid (HOV.out (j + 1) _ w5 (by have := HL.out.le; omega) HK5.out.g HK5.out.r)
        unfold RetR at HG5
        have hmo := HMO.out (j + 1)
        have hzo := HSZ.out (j + 1)
        clear hg5 hr5 HI
        cases hq : p (j + 1) with
        | bad jb =>
          rw [hq] at HG5
          have HTT := Lib.hid (HTB.out jb hq)
          have HQB : Hid (Cd.treeG s.data.toList (f + 1) k = .bad jb) := Lib.hid (by rw [HQT.out, HTT.out]; rfl)
          clear hq hmo hzo
          go_wp2_with fail
          refine HG5.out.mono ?_
          rintro e w6 ⟨hg6, A6, n6, c6, u6, rfl, hr6⟩
          have HRES := Lib.hid (retR_bad (u := u) (A := none) (n := 0) (c := 0) (grown_trans HK5.out.g hg6) hr6 HQB.out)
          clear hg6 hr6
          go_wp2_with fail
          refine bodyPost_ret (results_tmp2 rfl _ _ _) rfl ?_
          exact HRES.out
        | ok y j2 =>
          rw [hq] at HG5 hmo hzo
          have hj2 : j + 1 ≤ j2 := hmo
          have hzy : Cd.sizeI y + (j + 1) ≤ j2 := hzo.1
          have HM2 := Lib.hid (HTM.out y j2 hq hj2)
          clear hq hmo hzo
          go_wp2_with fail
          refine HG5.out.mono ?_
          rintro e w6 ⟨hg6, A6, c6, rfl, hr6, hx6⟩
          have HB7 : Hid (Below w6.heap.size w6 (w6.alloc (.cells #[.slice A6 (Cd.nodI L y).length c6] 25))) := Lib.hid ((Below.refl _ _).alloc (Nat.le_refl _) _)
          have HPRE := Lib.hid (HK5.out.pre hg6 hx6 HB7.out)
          have HNEW : Hid ((w6.alloc (.cells #[.slice A6 (Cd.nodI L y).length c6] 25)).heap[w6.heap.size]? = some (.cells #[.slice A6 (Cd.nodI L y).length c6] 25 (0, 0))) := Lib.hid (heap_alloc_new _ _)
          have HFEW : Hid ((xs.map (Cd.nodI L)).length ≤ 2000000) := Lib.hid (by rw [List.length_map]; exact HK5.out.few hs)
          have HG6 := Lib.hid hg6
          have HR6 := Lib.hid hr6
          clear hg6 hr6 hx6
          go_wp2_with (at_builtin; (refine wpList_append_ns rfl (.tmp 70) (.tmp 72) rfl w.heap.size (.slice Ak xs.length ck) (xs.map (Cd.nodI L)) (Cd.nodI L y) rfl HPRE.out.1 w6.heap.size 1 A6 c6 rfl (by decide) HNEW.out HPRE.out.2.1 HFEW.out HPRE.out.2.2 ?_))
          intro v8 w8 hown8 hg8
          have HK8 := Lib.hid (HK5.out.more HG6.out HR6.out hzy HB7.out hown8 hg8)
          clear hown8 hg8
          obtain ⟨Av, cv, rfl⟩ := HK8.out.form
          go_wp2_with fail
          go_roundg (s.size - j2 + 1)
          case measure => have := HK8.out.r.le; simp at hjs; omega
          case rel =>
            obtain ⟨m, hm1, hm2⟩ := HM2.out
            exact ⟨xs ++ [y], j2, m, rfl, HK8.out, by rw [← hm2]; exact HL.out.tot, hm1, by have := HL.out.le; omega⟩
theorem item3_any (R : Nat) (L : Sg.SList) (As : Option Addr) (cs : Nat) (s : ByteArray) (kind : Int) (hkd : kind = 2) (hs : s.size ≤ 1000000) (hv : Sg.checkV L = 0) : ∀ (f k : Nat) (u : Int) (w : World), s.size + 1 - k ≤ f → R3Is R L As cs s kind k u w → LR w R L As cs → Calls Tryz.prog 67 #[.pointer (some ⟨R, 0, none⟩)] w (RetR R L As cs s kind u (Cd.treeG s.data.toList f k) w)
  | 0, k, u, w, hf, h, _ => absurd h.le (by omega)
  | f + 1, k, u, w, hf, h, hl => item3_step R L As cs s kind hkd f k u w h hs hv hl fun j u' W hj hg hr => item3_any R L As cs s kind hkd hs hv f j u' W (by omega) hr (hl.go hg)
end Go.Proofs.YtenmkbpdkfhbjaaGreat
