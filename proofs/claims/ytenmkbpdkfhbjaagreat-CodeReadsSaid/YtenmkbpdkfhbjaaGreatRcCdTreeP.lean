/- The program's words of kinds, and their reader.; The program's reader: the word of a kind.; The program's reader: an item of the tree code. -/
import Derived.Test.YtenmkbpdkfhbjaaGreatRcCdReadL
namespace Go.Proofs.YtenmkbpdkfhbjaaGreat
open Go Go.RowKit

def wordS (k : Int) : ByteArray := if k = 2 ∨ k = 3 ∨ k = 4 ∨ k = 5 ∨ k = 7 then Cd.bs (Cd.wordOf k) else ⟨#[]⟩
def RetWd (k : Int) (w : World) (e : Ending) (w' : World) : Prop := e = .returned (.string (wordS k)) ∧ w' = w
set_option maxRecDepth 100000 in
set_option maxHeartbeats 4000000 in
theorem word_any (k : Int) (w : World) : Calls Tryz.prog 183 #[.int .i64 k] w (RetWd k w) := by
  have key : ∀ (b2 b3 b4 b5 b7 : Bool), (k == 2) = b2 → (k == 3) = b3 → (k == 4) = b4 → (k == 5) = b5 → (k == 7) = b7 → Calls Tryz.prog 183 #[.int .i64 k] w (RetWd k w) := by
    intro b2 b3 b4 b5 b7 h2 h3 h4 h5 h7
    have HW : Hid (wordS k = if b2 then Cd.bs (Cd.wordOf 2) else if b3 then Cd.bs (Cd.wordOf 3) else if b4 then Cd.bs (Cd.wordOf 4) else if b5 then Cd.bs (Cd.wordOf 5) else if b7 then Cd.bs (Cd.wordOf 7) else ⟨#[]⟩) := Lib.hid (by
      unfold wordS
      by_cases e2 : k = 2
      · subst e2; rw [← h2]; rfl
      by_cases e3 : k = 3
      · subst e3; rw [← h2, ← h3]; rfl
      by_cases e4 : k = 4
      · subst e4; rw [← h2, ← h3, ← h4]; rfl
      by_cases e5 : k = 5
      · subst e5; rw [← h2, ← h3, ← h4, ← h5]; rfl
      by_cases e7 : k = 7
      · subst e7; rw [← h2, ← h3, ← h4, ← h5, ← h7]; rfl
      · rw [if_neg (by omega), ← h2, ← h3, ← h4, ← h5, ← h7]
        simp [e2, e3, e4, e5, e7])
    cases b2
    · cases b3
      · cases b4
        · cases b5
          · cases b7
            · go_enter Tryz.func183, Tryz.ntmps183
              go_wp2_with fail
              go_ret
              exact ⟨by rw [HW.out]; rfl, rfl⟩
            · go_enter Tryz.func183, Tryz.ntmps183
              go_wp2_with fail
              go_ret
              exact ⟨by rw [HW.out]; rfl, rfl⟩
          · go_enter Tryz.func183, Tryz.ntmps183
            go_wp2_with fail
            go_ret
            exact ⟨by rw [HW.out]; rfl, rfl⟩
        · go_enter Tryz.func183, Tryz.ntmps183
          go_wp2_with fail
          go_ret
          exact ⟨by rw [HW.out]; rfl, rfl⟩
      · go_enter Tryz.func183, Tryz.ntmps183
        go_wp2_with fail
        go_ret
        exact ⟨by rw [HW.out]; rfl, rfl⟩
    · go_enter Tryz.func183, Tryz.ntmps183
      go_wp2_with fail
      go_ret
      exact ⟨by rw [HW.out]; rfl, rfl⟩
  exact key _ _ _ _ _ rfl rfl rfl rfl rfl
theorem next_quiet (R : Nat) (cv : Value) (s : ByteArray) (k : Nat) (w : World) (h : RdrIs R cv s k w) : Calls Tryz.prog 152 #[.pointer (some ⟨R, 0, none⟩)] w (fun e w' => e = .returned (.int .u8 (nextB s k)) ∧ ∃ m, w' = w.drewN m) := by
  obtain ⟨c0, c1, c2, f2, hlt⟩ := h.at
  have hk := h.le
  by_cases hend : k = s.size
  · have hq : ((k : Int) == (s.size : Int)) = true := by simp [hend]
    have hn : Hid (nextB s k = 0) := Lib.hid (by unfold nextB; rw [List.getElem?_eq_none (by rw [hend]; simp)])
    clear hend
    go_enter Tryz.func152, Tryz.ntmps152
    go_wp2
    go_quiet (fail)
    go_wp2
    go_ret
    exact ⟨by rw [hn.out]; rfl, _, rfl⟩
  · have hq : ((k : Int) == (s.size : Int)) = false := by simp; omega
    have hl : k < s.size := by omega
    have hn : Hid (nextB s k = (s[k].toNat : Int)) := Lib.hid (by unfold nextB; rw [h.byte hl])
    have hl0 : (0 : Int) ≤ (k : Int) := by omega
    have hl1 : (k : Int) < (s.size : Int) := by omega
    clear hend
    go_enter Tryz.func152, Tryz.ntmps152
    go_wp2
    go_quiet (fail)
    go_wp2
    go_quiet (fail)
    go_wp2
    go_ret
    exact ⟨by rw [hn.out]; rfl, _, World.drewN_drewN _ _ _⟩
theorem common_all : ∀ (a L : List UInt8) (n : Nat), n ≤ Cd.commonL a L → n < L.length → (∀ b, L[n]? = some b → (a[n]? = some b → n + 1 ≤ Cd.commonL a L) ∧ (a[n]? ≠ some b → Cd.commonL a L = n))
  | _, [], n, _, h => by simp at h
  | [], b :: L, n, h, _ => by
    intro c hc
    have h0 : n = 0 := by simp [Cd.commonL] at h; exact h
    subst h0
    exact ⟨fun e => by simp at e, fun _ => rfl⟩
  | a :: l, b :: L, n, h, hl => by
    intro c hc
    by_cases hab : a = b
    · have e : Cd.commonL (a :: l) (b :: L) = Cd.commonL l L + 1 := by rw [Cd.commonL, if_pos hab]
      rw [e] at h ⊢
      cases n with
      | zero =>
        simp at hc
        refine ⟨fun _ => by omega, fun e => absurd (by simp [hab, hc]) e⟩
      | succ n =>
        obtain ⟨q1, q2⟩ := common_all l L n (by omega) (by simpa using hl) c (by simpa using hc)
        exact ⟨fun e => by have := q1 (by simpa using e); omega, fun e => by have := q2 (by simpa using e); omega⟩
    · have e : Cd.commonL (a :: l) (b :: L) = 0 := by rw [Cd.commonL, if_neg hab]
      rw [e] at h ⊢
      have h0 : n = 0 := by omega
      subst h0
      simp at hc
      exact ⟨fun e => by simp at e; exact absurd (e.trans hc.symm) hab, fun _ => rfl⟩
theorem kind_first {s : ByteArray} {k : Nat} {κ : Int} (h : κ = 2 ∨ κ = 3 ∨ κ = 4 ∨ κ = 5 ∨ κ = 7) : ∃ b, (wordS κ).data.toList[0]? = some b ∧ (nextB s k = (b.toNat : Int) ↔ Cd.kindAt s.data.toList[k]? = κ) := by
  have key : ∀ (b : UInt8) (o : Option UInt8), (∀ c, o = some c → (c = b ↔ Cd.kindAt (some c) = κ)) → 0 < b.toNat → ((match o with | some c => (c.toNat : Int) | none => 0) = (b.toNat : Int) ↔ Cd.kindAt o = κ) := by
    intro b o ho hb
    cases o with
    | none =>
      simp only
      constructor
      · intro e; omega
      · intro e; exfalso; rw [show Cd.kindAt none = 0 from rfl] at e; omega
    | some c =>
      rw [← ho c rfl]
      constructor
      · intro e; exact UInt8.toNat_inj.1 (by simp only at e; omega)
      · intro e; subst e; rfl
  have kk : ∀ (c : UInt8), (c = 98 ↔ Cd.kindAt (some c) = 2) ∧ (c = 97 ↔ Cd.kindAt (some c) = 3) ∧ (c = 111 ↔ Cd.kindAt (some c) = 4) ∧ (c = 114 ↔ Cd.kindAt (some c) = 5) ∧ (c = 104 ↔ Cd.kindAt (some c) = 7) := fun c => by
    unfold Cd.kindAt
    simp only [Option.some.injEq]
    by_cases e1 : c = 98
    · subst e1; decide
    by_cases e2 : c = 97
    · subst e2; decide
    by_cases e3 : c = 111
    · subst e3; decide
    by_cases e4 : c = 114
    · subst e4; decide
    by_cases e5 : c = 104
    · subst e5; decide
    · simp [e1, e2, e3, e4, e5]
  unfold nextB
  rcases h with rfl | rfl | rfl | rfl | rfl
  · exact ⟨98, rfl, key _ _ (fun c _ => (kk c).1) (by decide)⟩
  · exact ⟨97, rfl, key _ _ (fun c _ => (kk c).2.1) (by decide)⟩
  · exact ⟨111, rfl, key _ _ (fun c _ => (kk c).2.2.1) (by decide)⟩
  · exact ⟨114, rfl, key _ _ (fun c _ => (kk c).2.2.2.1) (by decide)⟩
  · exact ⟨104, rfl, key _ _ (fun c _ => (kk c).2.2.2.2) (by decide)⟩
theorem kind_range (o : Option UInt8) : Cd.kindAt o = 0 ∨ (Cd.kindAt o = 2 ∨ Cd.kindAt o = 3 ∨ Cd.kindAt o = 4 ∨ Cd.kindAt o = 5 ∨ Cd.kindAt o = 7) := by
  unfold Cd.kindAt
  repeat' split
  all_goals simp
end Go.Proofs.YtenmkbpdkfhbjaaGreat
namespace Go.Proofs.YtenmkbpdkfhbjaaGreat
open Go Go.RowKit

theorem toList_not {s : ByteArray} (h : 0 < s.size) : s.toList.isEmpty = false := by
  rw [Go.Lib.toList_data]
  cases e : s.data.toList with
  | nil => have : s.size = 0 := by have := congrArg List.length e; simpa using this
           omega
  | cons a l => rfl
set_option maxRecDepth 100000 in
set_option maxHeartbeats 16000000 in
theorem rword_any (R : Nat) (cv : Value) (s : ByteArray) (k : Nat) (w : World) (h : RdrIs R cv s k w) (hs : s.size ≤ 1000000) :
    Calls Tryz.prog 184 #[.pointer (some ⟨R, 0, none⟩)] w (RetP R cv s vlN (Cd.wordG s.data.toList k) w) := by
  have HMU := Lib.hid (fun (j : Nat) (c : UInt8) (W : World) (hr : RdrIs R cv s j W) => must_any R cv s j c W hr hs)
  have HR := Lib.hid h
  have hRl := h.at.2.2.2.2
  obtain ⟨q, hq⟩ : ∃ q, q = Cd.kindAt s.data.toList[k]? := ⟨_, rfl⟩
  have hqr : q = 0 ∨ (q = 2 ∨ q = 3 ∨ q = 4 ∨ q = 5 ∨ q = 7) := by rw [hq]; exact kind_range _
  have HQ : Hid (Cd.wordG s.data.toList k = if q = 0 then .bad k else if Cd.commonL (s.data.toList.drop k) (Cd.wordOf q) = (Cd.wordOf q).length then .ok q (k + (Cd.wordOf q).length) else .bad (k + Cd.commonL (s.data.toList.drop k) (Cd.wordOf q))) := Lib.hid (by rw [hq]; rfl)
  have HKF := Lib.hid (fun (κ : Int) (hκ : κ = 2 ∨ κ = 3 ∨ κ = 4 ∨ κ = 5 ∨ κ = 7) => kind_first (s := s) (k := k) hκ)
  rw [← hq] at HKF
  have HQR := Lib.hid hqr
  clear h hq hqr
  go_enter Tryz.func184, Tryz.ntmps184
  go_wp2_with fail
  go_loopg [3] 6 (fun g i wr => ∃ κ : Nat, 2 ≤ κ ∧ κ ≤ 8 ∧ g = 8 - κ ∧ Value.int .i64 κ = i ∧ Below w.heap.size w wr ∧ (q = 0 ∨ (κ : Int) ≤ q))
  case atStart => exact ⟨2, by omega, by omega, rfl, rfl, Below.refl _ _, by have := HQR.out; omega⟩
  case round =>
    obtain ⟨κ, h2, h8, rfl, rfl, hb, hle⟩ := hrel
    have HB := Lib.hid hb
    have HLE := Lib.hid hle
    have hRw : RdrIs R cv s k wr := HR.out.keep (hb.block R hRl)
    have HRw := Lib.hid hRw
    clear hb hle hRw
    by_cases h7 : κ ≤ 7
    · have d1 : decide ((κ : Int) ≤ 7) = true := by simp; omega
      have HWD := Lib.hid (fun (W : World) => word_any (κ : Int) W)
      unfold RetWd at HWD
      by_cases h6 : κ = 6
      · have hW : wordS (κ : Int) = ⟨#[]⟩ := by rw [h6]; rfl
        rw [hW] at HWD
        have hq6 : q = 0 ∨ ((κ + 1 : Nat) : Int) ≤ q := by have := HLE.out; have := HQR.out; omega
        clear hW h6
        go_wp2_with fail
        refine (HWD.out _).mono ?_
        rintro e w3 ⟨rfl, rfl⟩
        go_wp2_with fail
        go_quiet (fail)
        go_wp2_with fail
        go_roundg (8 - (κ + 1))
        case measure => omega
        case rel => exact ⟨κ + 1, by omega, by omega, rfl, by go_num, HB.out.trans (drew_below _), hq6⟩
      · have hκ : (κ : Int) = 2 ∨ (κ : Int) = 3 ∨ (κ : Int) = 4 ∨ (κ : Int) = 5 ∨ (κ : Int) = 7 := by omega
        obtain ⟨b, hb0, hbk⟩ := HKF.out κ hκ
        have HW0 : Hid ((wordS (κ : Int)).data.toList = Cd.wordOf κ) := Lib.hid (by unfold wordS; rw [if_pos hκ]; rfl)
        obtain ⟨W, hW⟩ : ∃ W, W = wordS (κ : Int) := ⟨_, rfl⟩
        rw [← hW] at hb0 HW0 HWD
        have hl0 : 0 < W.size := by simpa using (List.getElem?_eq_some_iff.1 hb0).1
        have hl1 : (0 : Int) < (W.size : Int) := by omega
        have hE := toList_not hl0
        have hWb : W[0] = b := by
          have := (List.getElem?_eq_some_iff.1 hb0).2
          exact this
        have HNX := Lib.hid (fun (n : Nat) => next_quiet R cv s k (wr.drewN n) (HRw.out.keep rfl))
        obtain ⟨m, hm⟩ : ∃ m, m = nextB s k := ⟨_, rfl⟩
        rw [← hm] at HNX hbk
        clear hW hm hκ hb0
        by_cases hqk : q = (κ : Int)
        · have hne : (m != ((W[0].toNat : Nat) : Int)) = false := by rw [hWb]; simpa using hbk.2 hqk
          have HQK := Lib.hid hqk
          clear hWb hbk hqk
          go_wp2_with fail
          refine (HWD.out _).mono ?_
          rintro e w3 ⟨rfl, rfl⟩
          go_wp2_with fail
          go_quiet ((go_at_call 152; exact Calls.quiet_of (HNX.out _)))
          obtain ⟨C, hC⟩ : ∃ C, C = Cd.commonL (s.data.toList.drop k) W.data.toList := ⟨_, rfl⟩
          have HQ4 : Hid (Cd.wordG s.data.toList k = if C = W.size then .ok (κ : Int) (k + W.size) else .bad (k + C)) := Lib.hid (by
            have hl : W.size = W.data.toList.length := by simp
            rw [HQ.out, if_neg (by have := HQK.out; omega), HQK.out, ← HW0.out, ← hC, ← hl])
          have HCA : Hid (∀ n, n ≤ C → n < W.size → ∀ b, W.data.toList[n]? = some b → ((s.data.toList.drop k)[n]? = some b → n + 1 ≤ C) ∧ ((s.data.toList.drop k)[n]? ≠ some b → C = n)) := Lib.hid (by rw [hC]; exact fun n h1 h2 => common_all _ _ n h1 (by simpa using h2))
          have hmx : W.size ≤ 100 := by
            have e : W.size = (Cd.wordOf (κ : Int)).length := by rw [← HW0.out]; simp
            have : (Cd.wordOf (κ : Int)).length ≤ 100 := by
              unfold Cd.wordOf
              repeat' split
              all_goals simp
            omega
          have HCL : Hid (C ≤ W.size) := Lib.hid (by rw [hC]; have := Cd.common_le (s.data.toList.drop k) W.data.toList; simpa using this)
          clear hC
          go_wp2_with fail
          go_loopg [23] W.size (fun g i wv => ∃ n : Nat, n ≤ W.size ∧ g = W.size - n ∧ Value.int .i64 n = i ∧ w.grownBy wv (some R) ∧ RdrIs R cv s (k + n) wv ∧ n ≤ C)
          case atStart => exact ⟨0, Nat.zero_le _, rfl, rfl, grown_of_below (HB.out.trans (drew_below _)), HRw.out.keep rfl, Nat.zero_le _⟩
          case round =>
            rename_i wv _
            obtain ⟨n, hn, rfl, rfl, hg, hr, hc⟩ := hrel
            have HG := Lib.hid hg
            have HRv := Lib.hid hr
            clear hg hr
            by_cases hnl : n < W.size
            · have d2 : decide ((n : Int) < (W.size : Int)) = true := by simpa using hnl
              have d3 : (0 : Int) ≤ (n : Int) := by omega
              have d4 : (n : Int) < (W.size : Int) := by omega
              have hb : W.data.toList[n]? = some W[n] := by rw [List.getElem?_eq_getElem (by simpa using hnl)]; rfl
              obtain ⟨hy, hnn⟩ := HCA.out n hc hnl _ hb
              rw [List.getElem?_drop] at hy hnn
              have HM := Lib.hid (HMU.out (k + n) W[n] _ HRv.out)
              unfold RetP at HM
              cases hsee : Cd.sees s.data.toList (k + n) W[n]
              · have hmu : Cd.must s.data.toList (k + n) W[n] = .bad (k + n) := by unfold Cd.must; rw [if_neg (by rw [hsee]; exact Bool.false_ne_true)]
                have hCn := hnn (by simpa [Cd.sees] using hsee)
                have HQB : Hid (Cd.wordG s.data.toList k = .bad (k + n)) := Lib.hid (by rw [HQ4.out, hCn, if_neg (by omega)])
                rw [hmu] at HM
                clear hb hy hnn hsee hmu hCn
                go_wp2_with fail
                refine HM.out.mono ?_
                rintro e w6 ⟨hgw, rfl⟩
                rw [HQB.out]
                exact ⟨rfl, grown_trans HG.out hgw, rfl⟩
              · have hmu : Cd.must s.data.toList (k + n) W[n] = .ok () (k + n + 1) := by unfold Cd.must; rw [if_pos hsee]
                have hCn := hy (by simpa [Cd.sees] using hsee)
                rw [hmu] at HM
                clear hb hy hnn hsee hmu
                go_wp2_with fail
                refine HM.out.mono ?_
                rintro e w6 ⟨hgw, hrw, _, rfl, rfl⟩
                have HG6 := Lib.hid (grown_trans HG.out hgw)
                have HR6 := Lib.hid hrw
                clear hgw hrw HM
                go_wp2_with fail
                go_roundg (W.size - (n + 1))
                case measure => omega
                case rel => exact ⟨n + 1, by omega, rfl, by go_num, HG6.out, HR6.out, hCn⟩
            · have d2 : decide ((n : Int) < (W.size : Int)) = false := by simpa using hnl
              have hnW : n = W.size := by omega
              have HQO : Hid (Cd.wordG s.data.toList k = .ok (κ : Int) (k + n)) := Lib.hid (by rw [HQ4.out, if_pos (by have := HCL.out; omega), hnW])
              clear hnW
              go_wp2_with fail
              go_ret
              rw [HQO.out]
              exact ⟨HG.out, HRv.out, _, rfl, rfl⟩
        · have hne : (m != ((W[0].toNat : Nat) : Int)) = true := by rw [hWb]; simpa using fun e => hqk (hbk.1 e)
          have hq7 : q = 0 ∨ ((κ + 1 : Nat) : Int) ≤ q := by have := HLE.out; omega
          clear hWb hbk
          go_wp2_with fail
          refine (HWD.out _).mono ?_
          rintro e w3 ⟨rfl, rfl⟩
          go_wp2_with fail
          go_quiet ((go_at_call 152; exact Calls.quiet_of (HNX.out _)))
          go_wp2_with fail
          go_roundg (8 - (κ + 1))
          case measure => omega
          case rel => exact ⟨κ + 1, by omega, by omega, rfl, by go_num, HB.out.trans (drew_below _), hq7⟩
    · have d1 : decide ((κ : Int) ≤ 7) = false := by simp; omega
      have hq0 : q = 0 := by have := HLE.out; have := HQR.out; omega
      have HQB : Hid (Cd.wordG s.data.toList k = .bad k) := Lib.hid (by rw [HQ.out, if_pos hq0])
      have HF := Lib.hid (fail_any R cv s k wr HRw.out)
      clear hq0
      go_wp2_with fail
      refine HF.out.mono ?_
      rintro e w2 ⟨rfl, hb2⟩
      rw [HQB.out]
      exact ⟨rfl, grown_below (grown_of_below HB.out) hb2, rfl⟩
end Go.Proofs.YtenmkbpdkfhbjaaGreat
namespace Go.Proofs.YtenmkbpdkfhbjaaGreat
open Go Go.RowKit
def tcells (kind : Int) (kv : Value) : Array Value := #[.int .i64 kind, .int .i64 0, .int .i64 0, .int .i64 0, .bool false, .int .i64 0, .int .i64 0, .int .i64 0, .string ⟨#[]⟩, .int .i64 0, kv]
set_option maxRecDepth 100000 in
set_option maxHeartbeats 16000000 in
theorem tree_step (R : Nat) (s : ByteArray) (f : Nat) (k : Nat) (w : World) (h : RdrIs R (.iface 97 (.agg #[])) s k w) (hs : s.size ≤ 1000000)
    (ih : ∀ (j : Nat) (W : World), k + 1 ≤ j → RdrIs R (.iface 97 (.agg #[])) s j W → Calls Tryz.prog 180 #[.pointer (some ⟨R, 0, none⟩)] W (RetP R (.iface 97 (.agg #[])) s (VI S0) (Cd.treeG s.data.toList f j) W)) :
    Calls Tryz.prog 180 #[.pointer (some ⟨R, 0, none⟩)] w (RetP R (.iface 97 (.agg #[])) s (VI S0) (Cd.treeG s.data.toList (f + 1) k) w) := by
  have HIS := Lib.hid (fun (j : Nat) (c : UInt8) (W : World) (hr : RdrIs R (.iface 97 (.agg #[])) s j W) => is_any R (.iface 97 (.agg #[])) s j c W hr hs)
  have HMU := Lib.hid (fun (j : Nat) (c : UInt8) (W : World) (hr : RdrIs R (.iface 97 (.agg #[])) s j W) => must_any R (.iface 97 (.agg #[])) s j c W hr hs)
  have HGL : Hid (∀ (j : Nat) (W : World), RdrIs R (.iface 97 (.agg #[])) s j W → Calls Tryz.prog 161 #[.pointer (some ⟨R, 0, none⟩)] W (RetP R (.iface 97 (.agg #[])) s (VI S0) (Cd.glyphG s.data.toList false j) W)) := Lib.hid (fun j W hr => glyph_any R false s j W hr hs)
  have HWD := Lib.hid (fun (j : Nat) (W : World) (hr : RdrIs R (.iface 97 (.agg #[])) s j W) => rword_any R (.iface 97 (.agg #[])) s j W hr hs)
  have HRD := Lib.hid (fun (j : Nat) (W : World) (hj : k + 1 ≤ j) (hr : RdrIs R (.iface 97 (.agg #[])) s j W) => tread_any R (.iface 97 (.agg #[])) s (Cd.treeG s.data.toList f) j W hr hs (fun i U hi => ih i U (Nat.le_trans hj hi)) (Cd.tree_mono f))
  have HQ : Hid (Cd.treeG s.data.toList (f + 1) k = if Cd.sees s.data.toList k 63 = true then
      .ok (.mk (Cd.gapN (((s.data.toList.drop k).takeWhile fun c => decide (c = 63)).length : Nat) (((s.data.toList.drop k).takeWhile fun c => decide (c = 63)).length : Nat)) [] 0 []) (k + ((s.data.toList.drop k).takeWhile fun c => decide (c = 63)).length)
    else if Cd.sees s.data.toList k 40 = true then (Cd.wordG s.data.toList (k + 1)).bind fun q k1 => (Cd.must s.data.toList k1 32).bind fun _ k2 => (Cd.sepG s.data.toList (Cd.treeG s.data.toList f) 32 (Cd.N s.data.toList) k2).bind fun xs k3 => (Cd.must s.data.toList k3 41).bind fun _ k4 => .ok (.mk (Cd.kindN q) [] 0 xs) k4
    else Cd.glyphG s.data.toList false k) := Lib.hid rfl
  have HRN := Lib.hid (fun (n : Nat) => Cd.run_more (s := s.data.toList) (k := k) (n := n))
  clear ih
  obtain ⟨W1, hW1⟩ : ∃ W1, W1 = w.alloc (.cells #[.int .i64 0, .int .i64 0, .int .i64 0, .int .i64 0, .bool false, .int .i64 0, .int .i64 0, .int .i64 0, .string ⟨#[]⟩, .int .i64 0, .slice none 0 0] 114) := ⟨_, rfl⟩
  have HS1 : Hid (St0 w R (.iface 97 (.agg #[])) s k W1) := Lib.hid (by rw [hW1]; exact St0.start h)
  have HW1 := Lib.hid hW1
  clear h hW1
  go_enter Tryz.func180, Tryz.ntmps180
  go_upto_region 1 with fail
  rw [← HW1.out]
  go_wp2_with fail
  refine (HIS.out k 63 W1 HS1.out.r).mono ?_
  rintro e w2 ⟨he, hg2, hr2, -⟩
  cases hsee : Cd.sees s.data.toList k 63
  · rw [hsee] at hr2 HQ he
    subst he
    rw [if_neg Bool.false_ne_true] at hr2 HQ
    have HS2 := Lib.hid (HS1.out.call hg2 hr2)
    clear hsee hg2 hr2
    go_wp2_with fail
    refine (HIS.out k 40 w2 HS2.out.r).mono ?_
    rintro e w3 ⟨he, hg3, hr3, -⟩
    cases hsee : Cd.sees s.data.toList k 40
    · rw [hsee] at hr3 HQ he
      subst he
      rw [if_neg Bool.false_ne_true] at hr3 HQ
      have HS3 := Lib.hid (HS2.out.call hg3 hr3)
      clear hsee hg3 hr3
      have HG := Lib.hid (HGL.out k w3 HS3.out.r)
      unfold RetP at HG
      cases hgl : Cd.glyphG s.data.toList false k with
      | bad jb =>
        rw [hgl] at HG HQ
        clear hgl
        go_wp2_with fail
        refine HG.out.mono ?_
        rintro e w4 ⟨hgw, rfl⟩
        rw [HQ.out]
        exact ⟨rfl, grown_trans HS3.out.g hgw, rfl⟩
      | ok x j =>
        rw [hgl] at HG HQ
        clear hgl
        go_wp2_with fail
        refine HG.out.mono ?_
        rintro e w4 ⟨hgw, hrw, v, rfl, z, A, c, rfl, hsg, hk⟩
        have HS4 := Lib.hid (HS3.out.call hgw hrw)
        have hz4 := HS4.out.z
        obtain ⟨z0, z1, z2, z3, z4, z5, z6, z7, z8, z9, z10⟩ := box_cells hz4
        obtain ⟨y0, y1, y2, y3, y4, y5, y6, y7, y8, y9, y10⟩ := box_free hz4
        have HZ4 := Lib.hid hz4
        have HSG := Lib.hid hsg
        have HK := Lib.hid hk
        clear hgw hrw hsg hk HG hz4
        unfold aggI
        go_wp2_with fail
        rw [set_box HZ4.out]
        obtain ⟨f1, f2, f3, f4⟩ := ret_box HZ4.out HS4.out.g HS4.out.r HS4.out.hR (rowI x.node z (Cd.bs x.code) x.pos (.slice A x.kids.length c))
        refine bodyPost_ret (results_cell_row Tryz.results180 _ _ w.heap.size 114 _ (0, 0) _ rfl f3 Tryz.underlying114 rfl (by kernel_rfl)) rfl ?_
        rw [HQ.out]
        have hlz := lt_of_some HS3.out.z
        exact ⟨f1, f2, _, rfl, z, A, c, rfl, HSG.out, HK.out.keep fun b hb => ⟨⟨by have h1 : w3.heap.size ≤ b := hb.1; omega, by rw [setRow_size]; exact hb.2⟩, f4 b (by have h1 : w3.heap.size ≤ b := hb.1; omega)⟩⟩
    · rw [hsee] at hr3 HQ he
      subst he
      rw [if_pos rfl] at hr3 HQ
      have HS3 := Lib.hid (HS2.out.call hg3 hr3)
      clear hsee hg3 hr3
      have HG := Lib.hid (HWD.out (k + 1) w3 HS3.out.r)
      have hwm := Cd.word_mono (s := s.data.toList) (k + 1)
      unfold RetP at HG
      cases hgl : Cd.wordG s.data.toList (k + 1) with
      | bad jb =>
        rw [hgl] at HG HQ
        clear hgl hwm
        go_wp2_with fail
        refine HG.out.mono ?_
        rintro e w4 ⟨hgw, rfl⟩
        rw [HQ.out]
        exact ⟨rfl, grown_trans HS3.out.g hgw, rfl⟩
      | ok q k1 =>
        rw [hgl] at HG HQ hwm
        have hk1 : k + 1 ≤ k1 := hwm
        have HQK : Hid (q ≠ 1) := Lib.hid (by
          unfold Cd.wordG at hgl
          have := kind_range (s.data.toList[k + 1]?)
          simp only at hgl
          split at hgl
          · cases hgl
          · split at hgl
            · cases hgl; omega
            · cases hgl)
        clear hgl hwm
        dsimp only [Cd.R.bind] at HQ
        go_wp2_with fail
        refine HG.out.mono ?_
        rintro e w4 ⟨hgw, hrw, _, rfl, rfl⟩
        have HS4 := Lib.hid (HS3.out.call hgw hrw)
        clear hgw hrw HG
        go_upto_region 9 with fail
        obtain ⟨X, hX⟩ : ∃ X, X = w4.heap.size := ⟨_, rfl⟩
        obtain ⟨w5, hw5⟩ : ∃ w5, w5 = w4.alloc (.cells (tcells q (.slice none 0 0)) 114) := ⟨_, rfl⟩
        have HS5 : Hid (St w R (.iface 97 (.agg #[])) s k1 X (tcells q (.slice none 0 0)) w5) := Lib.hid (by rw [hw5, hX]; exact HS4.out.box _)
        unfold tcells at hw5
        rw [← hX, ← hw5]
        have HM := Lib.hid (HMU.out k1 32 w5 HS5.out.r)
        have hmm := Cd.must_mono (s := s.data.toList) k1 32
        unfold RetP at HM
        clear hX hw5
        cases hmu : Cd.must s.data.toList k1 32 with
        | bad jb =>
          rw [hmu] at HM HQ
          clear hmu hmm
          go_wp2_with fail
          refine HM.out.mono ?_
          rintro e w6 ⟨hgw, rfl⟩
          rw [HQ.out]
          exact ⟨rfl, grown_trans HS5.out.g hgw, rfl⟩
        | ok u k2 =>
          rw [hmu] at HM HQ hmm
          have hk2 : k1 ≤ k2 := hmm
          clear hmu hmm
          go_wp2_with fail
          refine HM.out.mono ?_
          rintro e w6 ⟨hgw, hrw, _, rfl, rfl⟩
          have HS6 := Lib.hid (HS5.out.call hgw hrw)
          clear hgw hrw HM
          obtain ⟨c0, c1, c2, f2, hltr⟩ := HS6.out.r.at
          have hme : ∀ W, (method 335 97 (.agg #[]) "ostracon/code.read").run Tryz.prog W = .ok (178, .agg #[]) W := fun _ => by kernel_rfl
          have HL := Lib.hid (HRD.out k2 w6 (by omega) HS6.out.r)
          have hlm : k2 ≤ (Cd.sepG s.data.toList (Cd.treeG s.data.toList f) 32 (Cd.N s.data.toList) k2).pos := Cd.sep_mono (Cd.tree_mono f) _ _
          unfold RetP at HL
          cases hli : Cd.sepG s.data.toList (Cd.treeG s.data.toList f) 32 (Cd.N s.data.toList) k2 with
          | bad jb =>
            rw [hli] at HL HQ
            clear hli hlm
            go_wp2_with fail
            refine HL.out.mono ?_
            rintro e w7 ⟨hgw, rfl⟩
            rw [HQ.out]
            exact ⟨rfl, grown_trans HS6.out.g hgw, rfl⟩
          | ok xs k3 =>
            rw [hli] at HL HQ hlm
            clear hli
            go_wp2_with fail
            refine HL.out.mono ?_
            rintro e w7 ⟨hgw, hrw, _, rfl, A, c, rfl, hk⟩
            have HS7 := Lib.hid (HS6.out.call hgw hrw)
            have HK7 := Lib.hid hk
            have HZ6 : Hid (w.heap.size < w6.heap.size ∧ X < w6.heap.size) := Lib.hid ⟨lt_of_some HS6.out.z, lt_of_some HS6.out.x⟩
            have x10 := (in_box HS7.out.x 10).1
            have y10 := (in_box HS7.out.x 10).2
            simp [tcells] at x10
            clear hgw hrw hk HL hme c0 c1 c2 f2 hlm
            go_upto_region 11 with fail
            obtain ⟨w8, hw8⟩ : ∃ w8, w8 = w7.setCell ⟨X, 10, none⟩ (.slice A xs.length c) := ⟨_, rfl⟩
            rw [← hw8]
            have HS8 : Hid (St w R (.iface 97 (.agg #[])) s k3 X (tcells q (.slice A xs.length c)) w8) := Lib.hid (by rw [hw8]; exact HS7.out.set 10 _)
            have HK8 : Hid (RdH (KI S0) 114 w8 (fun b => w.heap.size < b ∧ b < w8.heap.size) (.slice A xs.length c) xs) := Lib.hid (HK7.out.keep fun b hb => by
              have h1 : w6.heap.size ≤ b := hb.1
              have h2 := HZ6.out
              rw [hw8]
              exact ⟨⟨by omega, by rw [size_set]; exact hb.2⟩, Below.heap_setCell _ ⟨X, 10, none⟩ _ _ (by show b ≠ X; omega)⟩)
            have HM := Lib.hid (HMU.out k3 41 w8 HS8.out.r)
            unfold RetP at HM
            clear hw8 x10 y10
            cases hmu : Cd.must s.data.toList k3 41 with
            | bad jb =>
              rw [hmu] at HM HQ
              clear hmu
              go_wp2_with fail
              refine HM.out.mono ?_
              rintro e w9 ⟨hgw, rfl⟩
              rw [HQ.out]
              exact ⟨rfl, grown_trans HS8.out.g hgw, rfl⟩
            | ok u2 k4 =>
              rw [hmu] at HM HQ
              clear hmu
              go_wp2_with fail
              refine HM.out.mono ?_
              rintro e w9 ⟨hgw, hrw, _, rfl, rfl⟩
              have HS9 := Lib.hid (HS8.out.call hgw hrw)
              have HK9 := Lib.hid (HK8.out.keep (w' := w9) (ok' := fun b => w.heap.size < b ∧ b < w9.heap.size) fun b hb => ⟨⟨hb.1, Nat.lt_of_lt_of_le hb.2 hgw.size⟩, hgw.block b hb.2 (fun e => by cases e; have := HS8.out.hR; omega)⟩)
              clear hgw hrw HM
              have hx9 := HS9.out.x
              have hz9 := HS9.out.z
              unfold tcells at hx9
              obtain ⟨g0, g1, g2, g3, g4, g5, g6, g7, g8, g9, g10⟩ := box_cells hx9
              obtain ⟨z0, z1, z2, z3, z4, z5, z6, z7, z8, z9, z10⟩ := box_cells hz9
              obtain ⟨y0, y1, y2, y3, y4, y5, y6, y7, y8, y9, y10⟩ := box_free hz9
              have HZ9 := Lib.hid hz9
              clear hx9 hz9
              go_wp2_with fail
              rw [set_box HZ9.out]
              obtain ⟨f1, f2, f3, f4⟩ := ret_box HZ9.out HS9.out.g HS9.out.r HS9.out.hR (tcells q (.slice A xs.length c))
              refine bodyPost_ret (results_cell_row Tryz.results180 _ _ w.heap.size 114 _ (0, 0) _ rfl f3 Tryz.underlying114 rfl (by kernel_rfl)) rfl ?_
              rw [HQ.out]
              exact ⟨f1, f2, _, rfl, 0, A, c, rfl, (if_neg HQK.out).mpr rfl, HK9.out.keep fun b hb => ⟨⟨by have := hb.1; omega, by rw [setRow_size]; exact hb.2⟩, f4 b (by have := hb.1; omega)⟩⟩
  · rw [hsee] at hr2 HQ he
    subst he
    rw [if_pos rfl] at hr2 HQ
    have HS2 := Lib.hid (HS1.out.call hg2 hr2)
    clear hg2 hr2
    obtain ⟨M, hM⟩ : ∃ M, M = ((s.data.toList.drop k).takeWhile fun c => decide (c = 63)).length := ⟨_, rfl⟩
    rw [← hM] at HRN HQ
    have h1M : 1 ≤ M := (HRN.out 0 (Nat.zero_le _)).2 (by simpa using hsee)
    clear hsee hM
    go_wp2_with fail
    go_loopg [3] M (fun g i wr => ∃ n : Nat, 1 ≤ n ∧ n ≤ M ∧ g = M - n + 1 ∧ Value.int .i64 n = i ∧ St0 w R (.iface 97 (.agg #[])) s (k + n) wr)
    case atStart => exact ⟨1, Nat.le_refl _, h1M, by omega, rfl, HS2.out⟩
    case round =>
      obtain ⟨n, hn1, hnM, rfl, rfl, hst⟩ := hrel
      have HS := Lib.hid hst
      have HI := Lib.hid (HIS.out (k + n) 63 _ hst.r)
      have hmore := HRN.out n hnM
      clear hst
      go_wp2_with fail
      refine HI.out.mono ?_
      rintro e w3 ⟨he, hg3, hr3, -⟩
      cases hsee : Cd.sees s.data.toList (k + n) 63
      · rw [hsee] at hr3 he hmore
        subst he
        rw [if_neg Bool.false_ne_true] at hr3
        have hnM2 : n = M := by
          have : ¬ n < M := fun q => Bool.false_ne_true (hmore.1 q)
          omega
        have HQ2 : Hid (Cd.treeG s.data.toList (f + 1) k = .ok (.mk (Cd.gapN (n : Nat) (n : Nat)) [] 0 []) (k + n)) := Lib.hid (by rw [HQ.out, hnM2])
        have HS3 := Lib.hid (HS.out.call hg3 hr3)
        clear hsee hg3 hr3 hmore hnM2 HI
        have hz3 := HS3.out.z
        obtain ⟨z0, z1, z2, z3, z4, z5, z6, z7, z8, z9, z10⟩ := box_cells hz3
        obtain ⟨y0, y1, y2, y3, y4, y5, y6, y7, y8, y9, y10⟩ := box_free hz3
        have HZ3 := Lib.hid hz3
        clear hz3
        go_wp2_with fail
        rw [set_box HZ3.out]
        obtain ⟨f1, f2, f3, f4⟩ := ret_box HZ3.out HS3.out.g HS3.out.r HS3.out.hR #[.int .i64 6, .int .i64 0, .int .i64 0, .int .i64 0, .bool false, .int .i64 0, .int .i64 n, .int .i64 n, .string ⟨#[]⟩, .int .i64 0, .slice none 0 0]
        refine bodyPost_ret (results_cell_row Tryz.results180 _ _ w.heap.size 114 _ (0, 0) _ rfl f3 Tryz.underlying114 rfl (by kernel_rfl)) rfl ?_
        rw [HQ2.out]
        exact ⟨f1, f2, _, rfl, 0, none, 0, rfl, rfl, RdH.nil _ _ _⟩
      · rw [hsee] at hr3 he hmore
        subst he
        rw [if_pos rfl] at hr3
        have hn2 := hmore.2 rfl
        have hks := Cd.sees_lt' hsee
        have HS3 := Lib.hid (HS.out.call hg3 hr3)
        have hnb : n ≤ 1000000 := by simp at hks; omega
        clear hsee hg3 hr3 hmore HI hks
        go_wp2_with fail
        go_roundg (M - (n + 1) + 1)
        case measure => omega
        case rel => exact ⟨n + 1, by omega, by omega, rfl, by go_num, HS3.out⟩
theorem tree_any (R : Nat) (s : ByteArray) (hs : s.size ≤ 1000000) : ∀ (f k : Nat) (w : World), s.size + 1 - k ≤ f → RdrIs R (.iface 97 (.agg #[])) s k w → Calls Tryz.prog 180 #[.pointer (some ⟨R, 0, none⟩)] w (RetP R (.iface 97 (.agg #[])) s (VI S0) (Cd.treeG s.data.toList f k) w)
  | 0, k, w, hf, h => absurd h.le (by omega)
  | f + 1, k, w, hf, h => tree_step R s f k w h hs fun j W hj hr => tree_any R s hs f j W (by omega) hr
end Go.Proofs.YtenmkbpdkfhbjaaGreat
