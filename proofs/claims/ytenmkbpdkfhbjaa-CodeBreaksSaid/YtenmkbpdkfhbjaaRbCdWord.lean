/- The program's words of kinds, and their reader. -/
import Derived.Test.YtenmkbpdkfhbjaaRbCdReadL
namespace Go.Proofs.Ytenmkbpdkfhbjaa
open Go Go.RowKit

/-- the word of a kind, as a string -/
def wordS (k : Int) : ByteArray := if k = 2 ∨ k = 3 ∨ k = 4 ∨ k = 5 ∨ k = 7 then Cd.bs (Cd.wordOf k) else ⟨#[]⟩
def RetWd (k : Int) (w : World) (e : Ending) (w' : World) : Prop := e = .returned (.string (wordS k)) ∧ w' = w
set_option maxRecDepth 100000 in
set_option maxHeartbeats 4000000 in
theorem word_any (k : Int) (w : World) : Calls Try.prog 98 #[.int .i64 k] w (RetWd k w) := by
  have key : ∀ (b2 b3 b4 b5 b7 : Bool), (k == 2) = b2 → (k == 3) = b3 → (k == 4) = b4 → (k == 5) = b5 → (k == 7) = b7 → Calls Try.prog 98 #[.int .i64 k] w (RetWd k w) := by
    intro b2 b3 b4 b5 b7 h2 h3 h4 h5 h7
    have HW : Hid (wordS k = if b2 then Cd.bs (Cd.wordOf 2) else if b3 then Cd.bs (Cd.wordOf 3) else if b4 then Cd.bs (Cd.wordOf 4) else if b5 then Cd.bs (Cd.wordOf 5) else if b7 then Cd.bs (Cd.wordOf 7) else ⟨#[]⟩) := Lib.hid (by
      unfold wordS
      by_cases e2 : k = 2
      · subst e2; rw [← h2]; rfl
      by_cases e3 : k = 3
      · subst e3; rw [← h2, ← h3]; rfl
      by_cases e4 : k = 4
      · subst e4; rw [← h2, ← h3, ← h4]; rfl
      by_cases e5 : k = 5
      · subst e5; rw [← h2, ← h3, ← h4, ← h5]; rfl
      by_cases e7 : k = 7
      · subst e7; rw [← h2, ← h3, ← h4, ← h5, ← h7]; rfl
      · rw [if_neg (by omega), ← h2, ← h3, ← h4, ← h5, ← h7]
        simp [e2, e3, e4, e5, e7])
    cases b2
    · cases b3
      · cases b4
        · cases b5
          · cases b7
            · go_enter Try.func98, Try.ntmps98
              go_wp2_with fail
              go_ret
              exact ⟨by rw [HW.out]; rfl, rfl⟩
            · go_enter Try.func98, Try.ntmps98
              go_wp2_with fail
              go_ret
              exact ⟨by rw [HW.out]; rfl, rfl⟩
          · go_enter Try.func98, Try.ntmps98
            go_wp2_with fail
            go_ret
            exact ⟨by rw [HW.out]; rfl, rfl⟩
        · go_enter Try.func98, Try.ntmps98
          go_wp2_with fail
          go_ret
          exact ⟨by rw [HW.out]; rfl, rfl⟩
      · go_enter Try.func98, Try.ntmps98
        go_wp2_with fail
        go_ret
        exact ⟨by rw [HW.out]; rfl, rfl⟩
    · go_enter Try.func98, Try.ntmps98
      go_wp2_with fail
      go_ret
      exact ⟨by rw [HW.out]; rfl, rfl⟩
  exact key _ _ _ _ _ rfl rfl rfl rfl rfl
/-- next, as a quiet call -/
theorem next_quiet (R : Nat) (cv : Value) (s : ByteArray) (k : Nat) (w : World) (h : RdrIs R cv s k w) : Calls Try.prog 67 #[.pointer (some ⟨R, 0, none⟩)] w (fun e w' => e = .returned (.int .u8 (nextB s k)) ∧ ∃ m, w' = w.drewN m) := by
  obtain ⟨c0, c1, c2, f2, hlt⟩ := h.at
  have hk := h.le
  by_cases hend : k = s.size
  · have hq : ((k : Int) == (s.size : Int)) = true := by simp [hend]
    have hn : Hid (nextB s k = 0) := Lib.hid (by unfold nextB; rw [List.getElem?_eq_none (by rw [hend]; simp)])
    clear hend
    go_enter Try.func67, Try.ntmps67
    go_wp2
    go_quiet (fail)
    go_wp2
    go_ret
    exact ⟨by rw [hn.out]; rfl, _, rfl⟩
  · have hq : ((k : Int) == (s.size : Int)) = false := by simp; omega
    have hl : k < s.size := by omega
    have hn : Hid (nextB s k = (s[k].toNat : Int)) := Lib.hid (by unfold nextB; rw [h.byte hl])
    have hl0 : (0 : Int) ≤ (k : Int) := by omega
    have hl1 : (k : Int) < (s.size : Int) := by omega
    clear hend
    go_enter Try.func67, Try.ntmps67
    go_wp2
    go_quiet (fail)
    go_wp2
    go_quiet (fail)
    go_wp2
    go_ret
    exact ⟨by rw [hn.out]; rfl, _, World.drewN_drewN _ _ _⟩
theorem common_all : ∀ (a L : List UInt8) (n : Nat), n ≤ Cd.commonL a L → n < L.length → (∀ b, L[n]? = some b → (a[n]? = some b → n + 1 ≤ Cd.commonL a L) ∧ (a[n]? ≠ some b → Cd.commonL a L = n))
  | _, [], n, _, h => by simp at h
  | [], b :: L, n, h, _ => by
    intro c hc
    have h0 : n = 0 := by simp [Cd.commonL] at h; exact h
    subst h0
    exact ⟨fun e => by simp at e, fun _ => rfl⟩
  | a :: l, b :: L, n, h, hl => by
    intro c hc
    by_cases hab : a = b
    · have e : Cd.commonL (a :: l) (b :: L) = Cd.commonL l L + 1 := by rw [Cd.commonL, if_pos hab]
      rw [e] at h ⊢
      cases n with
      | zero =>
        simp at hc
        refine ⟨fun _ => by omega, fun e => absurd (by simp [hab, hc]) e⟩
      | succ n =>
        obtain ⟨q1, q2⟩ := common_all l L n (by omega) (by simpa using hl) c (by simpa using hc)
        exact ⟨fun e => by have := q1 (by simpa using e); omega, fun e => by have := q2 (by simpa using e); omega⟩
    · have e : Cd.commonL (a :: l) (b :: L) = 0 := by rw [Cd.commonL, if_neg hab]
      rw [e] at h ⊢
      have h0 : n = 0 := by omega
      subst h0
      simp at hc
      exact ⟨fun e => by simp at e; exact absurd (e.trans hc.symm) hab, fun _ => rfl⟩
/-- the first byte tells the kind -/
theorem kind_first {s : ByteArray} {k : Nat} {κ : Int} (h : κ = 2 ∨ κ = 3 ∨ κ = 4 ∨ κ = 5 ∨ κ = 7) : ∃ b, (wordS κ).data.toList[0]? = some b ∧ (nextB s k = (b.toNat : Int) ↔ Cd.kindAt s.data.toList[k]? = κ) := by
  have key : ∀ (b : UInt8) (o : Option UInt8), (∀ c, o = some c → (c = b ↔ Cd.kindAt (some c) = κ)) → 0 < b.toNat → ((match o with | some c => (c.toNat : Int) | none => 0) = (b.toNat : Int) ↔ Cd.kindAt o = κ) := by
    intro b o ho hb
    cases o with
    | none =>
      simp only
      constructor
      · intro e; omega
      · intro e; exfalso; rw [show Cd.kindAt none = 0 from rfl] at e; omega
    | some c =>
      rw [← ho c rfl]
      constructor
      · intro e; exact UInt8.toNat_inj.1 (by simp only at e; omega)
      · intro e; subst e; rfl
  have kk : ∀ (c : UInt8), (c = 98 ↔ Cd.kindAt (some c) = 2) ∧ (c = 97 ↔ Cd.kindAt (some c) = 3) ∧ (c = 111 ↔ Cd.kindAt (some c) = 4) ∧ (c = 114 ↔ Cd.kindAt (some c) = 5) ∧ (c = 104 ↔ Cd.kindAt (some c) = 7) := fun c => by
    unfold Cd.kindAt
    simp only [Option.some.injEq]
    by_cases e1 : c = 98
    · subst e1; decide
    by_cases e2 : c = 97
    · subst e2; decide
    by_cases e3 : c = 111
    · subst e3; decide
    by_cases e4 : c = 114
    · subst e4; decide
    by_cases e5 : c = 104
    · subst e5; decide
    · simp [e1, e2, e3, e4, e5]
  unfold nextB
  rcases h with rfl | rfl | rfl | rfl | rfl
  · exact ⟨98, rfl, key _ _ (fun c _ => (kk c).1) (by decide)⟩
  · exact ⟨97, rfl, key _ _ (fun c _ => (kk c).2.1) (by decide)⟩
  · exact ⟨111, rfl, key _ _ (fun c _ => (kk c).2.2.1) (by decide)⟩
  · exact ⟨114, rfl, key _ _ (fun c _ => (kk c).2.2.2.1) (by decide)⟩
  · exact ⟨104, rfl, key _ _ (fun c _ => (kk c).2.2.2.2) (by decide)⟩
theorem kind_range (o : Option UInt8) : Cd.kindAt o = 0 ∨ (Cd.kindAt o = 2 ∨ Cd.kindAt o = 3 ∨ Cd.kindAt o = 4 ∨ Cd.kindAt o = 5 ∨ Cd.kindAt o = 7) := by
  unfold Cd.kindAt
  repeat' split
  all_goals simp
end Go.Proofs.Ytenmkbpdkfhbjaa
