/- code.parse in the tree code. -/
import Derived.Test.YtenmkbpdkfhbjaaRbCdParse
namespace Go.Proofs.Ytenmkbpdkfhbjaa
open Go Go.RowKit

set_option maxRecDepth 100000 in
set_option maxHeartbeats 16000000 in
theorem parse_tree (s : ByteArray) (hs : s.size ≤ 1000000) (w : World) : Calls Try.prog 12 #[.iface 59 (.agg #[]), .string s] w (RetParse 2 s w) := by
  have hmf : ∀ (fn : Fn) (first cap : Array Value) (w : World), (Instr.makeFunc fn first cap).run Try.prog w = .ok (.func fn first cap) w := fun _ _ _ _ => rfl
  by_cases he : s.data.toList = []
  · have hE : s.toList.isEmpty = true := by rw [Go.Lib.toList_data, he]; rfl
    have hE2 : s.toList = [] := by rw [Go.Lib.toList_data, he]
    have HP : Hid (Cd.parseG s.data.toList 2 = .ok [] 0) := Lib.hid (by unfold Cd.parseG; rw [if_pos he])
    clear he
    go_enter_defers Try.func12, Try.ntmps12
    go_wp2_with fail
    refine leaves_cons (f := 21) (args := #[.pointer (some ⟨w.heap.size, 0, none⟩), .pointer (some ⟨w.heap.size + 1, 0, none⟩), .pointer (some ⟨w.heap.size + 1 + 1, 0, none⟩)]) (by simp) (by simp [go_sem]) ?_
    refine (catch_idle _ _ _ _).mono ?_
    rintro e u' w'' ⟨rfl, rfl, rfl⟩
    simp [Leaves, settle, results, Try.results12, go_sem]
    refine RetParse.mk _ _ _ _ (((((Below.refl _ _).alloc (Nat.le_refl _) _).alloc (by simp) _).alloc (by simp; omega) _).alloc (by simp; omega) _) ?_
    rw [HP.out]
    exact ⟨rfl, rfl, none, 0, rfl, RdH.nil _ _ _⟩
  · have hE : s.toList.isEmpty = false := by
      rw [Go.Lib.toList_data]
      cases h : s.data.toList with
      | nil => exact absurd h he
      | cons a l => rfl
    have HP : Hid (Cd.parseG s.data.toList 2 = (Cd.sepG s.data.toList (Cd.treeG s.data.toList (Cd.N s.data.toList)) 32 (Cd.N s.data.toList) 0).bind fun xs k => if k < s.data.toList.length then .bad k else .ok xs k) := Lib.hid (by unfold Cd.parseG; rw [if_neg he]; rfl)
    have hme : ∀ W, (method 265 59 (.agg #[]) "ostracon/code.read").run Try.prog W = .ok (93, .agg #[]) W := fun _ => by kernel_rfl
    obtain ⟨W4, hW4⟩ : ∃ W4, W4 = (((w.alloc (.cells #[.slice none 0 0] 47)).alloc (.cells #[.int .i64 0] 3)).alloc (.cells #[.int .i64 0] 33)).alloc (.cells #[.iface 59 (.agg #[]), .string s, .int .i64 0] 69) := ⟨_, rfl⟩
    have hb4 : Below w.heap.size w W4 := by rw [hW4]; exact ((((Below.refl _ _).alloc (Nat.le_refl _) _).alloc (by simp) _).alloc (by simp; omega) _).alloc (by simp; omega) _
    obtain ⟨h4, h5, h6, h7, hsz4⟩ := four_alloc w (.cells #[.slice none 0 0] 47) (.cells #[.int .i64 0] 3) (.cells #[.int .i64 0] 33) (.cells #[.iface 59 (.agg #[]), .string s, .int .i64 0] 69)
    rw [← hW4] at h4 h5 h6 h7 hsz4
    have HL := Lib.hid ((fun R W hr => tread_any R (.iface 59 (.agg #[])) s (Cd.treeG s.data.toList (Cd.N s.data.toList)) 0 W hr hs (fun j U _ hu => tree_any R s hs _ j U (by unfold Cd.N; simp) hu) (fun j => Cd.tree_mono _ j)) (w.heap.size + 1 + 1 + 1) W4 ⟨h7, Nat.zero_le _⟩)
    unfold RetP at HL
    have HB4 := Lib.hid hb4
    have H4 := Lib.hid h4
    have H5 := Lib.hid h5
    have H6 := Lib.hid h6
    have HS4 := Lib.hid hsz4
    have HW4 := Lib.hid hW4
    clear he hb4 h4 h5 h6 h7 hsz4 hW4
    cases hli : Cd.sepG s.data.toList (Cd.treeG s.data.toList (Cd.N s.data.toList)) 32 (Cd.N s.data.toList) 0 with
    | bad jb =>
      rw [hli] at HL HP
      clear hli
      go_enter_defers Try.func12, Try.ntmps12
      go_upto_region 5 with fail
      rw [← HW4.out]
      go_wp2_with fail
      refine HL.out.mono ?_
      rintro e w5 ⟨hgw, rfl⟩
      have k4 := (hgw.block _ (lt_of_some H4.out) (fun e => by injection e with e; omega)).trans H4.out
      have k5 := (hgw.block _ (lt_of_some H5.out) (fun e => by injection e with e; omega)).trans H5.out
      have k6 := (hgw.block _ (lt_of_some H6.out) (fun e => by injection e with e; omega)).trans H6.out
      have HB5 : Hid (Below w.heap.size w w5) := Lib.hid (HB4.out.grown hgw (by have := HB4.out.size; exact this) (fun q e => by cases e; omega))
      refine leaves_cons (f := 21) (args := #[.pointer (some ⟨w.heap.size, 0, none⟩), .pointer (some ⟨w.heap.size + 1, 0, none⟩), .pointer (some ⟨w.heap.size + 1 + 1, 0, none⟩)]) (by simp) (by simp [go_sem]) ?_
      refine (catch_wrong _ _ _ _ _ _ jb w5 k4 k5 k6 (by omega) (by omega)).mono ?_
      rintro e u' w6 ⟨rfl, rfl, q4, q5, q6, hb6⟩
      have c4 := (in_box q4 0).1
      have c5 := (in_box q5 0).1
      have c6 := (in_box q6 0).1
      simp at c4 c5 c6
      have HB6 := Lib.hid (HB5.out.trans hb6)
      clear hgw k4 k5 k6 q4 q5 q6 hb6 hmf hme
      simp [Leaves, settle, results, Try.results12, go_sem, c4, c5, c6]
      refine RetParse.mk _ _ _ _ HB6.out ?_
      rw [HP.out]
      exact ⟨rfl, rfl, rfl⟩
    | ok xs k1 =>
      rw [hli] at HL HP
      clear hli
      dsimp only [Cd.R.bind] at HP
      by_cases hk : k1 < s.data.toList.length
      · have HPB := Lib.hid (HP.out.trans (if_pos hk))
        have hk' : k1 < s.size := by simpa using hk
        have d1 : decide ((k1 : Int) < (s.size : Int)) = true := by simpa using hk'
        clear hk HP
        go_enter_defers Try.func12, Try.ntmps12
        go_upto_region 5 with fail
        rw [← HW4.out]
        go_wp2_with fail
        refine HL.out.mono ?_
        rintro e w5 ⟨hgw, hrw, _, rfl, A, c, rfl, -⟩
        have k4 := (hgw.block _ (lt_of_some H4.out) (fun e => by injection e with e; omega)).trans H4.out
        have k5 := (hgw.block _ (lt_of_some H5.out) (fun e => by injection e with e; omega)).trans H5.out
        have k6 := (hgw.block _ (lt_of_some H6.out) (fun e => by injection e with e; omega)).trans H6.out
        have HB5 : Hid (Below w.heap.size w w5) := Lib.hid (HB4.out.grown hgw (by have := HB4.out.size; exact this) (fun q e => by cases e; omega))
        have x4 := (in_box k4 0).1
        have y4 := (in_box k4 0).2
        simp at x4
        obtain ⟨w6, hw6⟩ : ∃ w6, w6 = w5.setCell ⟨w.heap.size, 0, none⟩ (.slice A xs.length c) := ⟨_, rfl⟩
        have HB6 : Hid (Below w.heap.size w w6) := Lib.hid (by rw [hw6]; exact HB5.out.setCell (Nat.le_refl _) _)
        have K4 : Hid (w6.heap[w.heap.size]? = some (.cells #[.slice A xs.length c] 47 (0, 0))) := Lib.hid (by rw [hw6]; exact Go.Joins.block_setCell k4 _)
        have K5 : Hid (w6.heap[w.heap.size + 1]? = some (.cells #[.int .i64 0] 3 (0, 0))) := Lib.hid (by rw [hw6]; exact (Below.heap_setCell _ ⟨w.heap.size, 0, none⟩ _ _ (by show w.heap.size + 1 ≠ w.heap.size; omega)).trans k5)
        have K6 : Hid (w6.heap[w.heap.size + 1 + 1]? = some (.cells #[.int .i64 0] 33 (0, 0))) := Lib.hid (by rw [hw6]; exact (Below.heap_setCell _ ⟨w.heap.size, 0, none⟩ _ _ (by show w.heap.size + 1 + 1 ≠ w.heap.size; omega)).trans k6)
        have hr6 : RdrIs (w.heap.size + 1 + 1 + 1) (.iface 59 (.agg #[])) s k1 w6 := hrw.keep (by rw [hw6]; exact Below.heap_setCell _ ⟨w.heap.size, 0, none⟩ _ _ (by show w.heap.size + 1 + 1 + 1 ≠ w.heap.size; omega))
        have HF := Lib.hid (fail_any _ _ _ _ w6 hr6)
        have HW6 := Lib.hid hw6
        obtain ⟨c0, c1, c2, f2, hlt⟩ := hr6.at
        clear hw6 hgw hrw k4 k5 k6
        go_upto_region 6 with fail
        rw [← HW6.out]
        clear x4 y4
        go_wp2_with fail
        refine HF.out.mono ?_
        rintro e w7 ⟨rfl, hb7⟩
        have k4 := (hb7.block _ (lt_of_some K4.out)).trans K4.out
        have k5 := (hb7.block _ (lt_of_some K5.out)).trans K5.out
        have k6 := (hb7.block _ (lt_of_some K6.out)).trans K6.out
        refine leaves_cons (f := 21) (args := #[.pointer (some ⟨w.heap.size, 0, none⟩), .pointer (some ⟨w.heap.size + 1, 0, none⟩), .pointer (some ⟨w.heap.size + 1 + 1, 0, none⟩)]) (by simp) (by simp [go_sem]) ?_
        refine (catch_wrong _ _ _ _ _ _ k1 w7 k4 k5 k6 (by omega) (by omega)).mono ?_
        rintro e u' w8 ⟨rfl, rfl, q4, q5, q6, hb8⟩
        have c4 := (in_box q4 0).1
        have c5 := (in_box q5 0).1
        have c6 := (in_box q6 0).1
        simp at c4 c5 c6
        have HB8 := Lib.hid ((HB6.out.trans (hb7.mono HB6.out.size)).trans hb8)
        clear k4 k5 k6 q4 q5 q6 hb7 hb8 hmf hme c0 c1 c2 f2
        simp [Leaves, settle, results, Try.results12, go_sem, c4, c5, c6]
        refine RetParse.mk _ _ _ _ HB8.out ?_
        rw [HPB.out]
        exact ⟨rfl, rfl, rfl⟩
      · have HPO := Lib.hid (HP.out.trans (if_neg hk))
        have hk' : ¬ k1 < s.size := by simpa using hk
        have d1 : decide ((k1 : Int) < (s.size : Int)) = false := by simpa using hk'
        have d2 : decide (k1 < s.size) = false := by simpa using hk'
        clear hk hk' HP
        go_enter_defers Try.func12, Try.ntmps12
        go_upto_region 5 with fail
        rw [← HW4.out]
        go_wp2_with fail
        refine HL.out.mono ?_
        rintro e w5 ⟨hgw, hrw, _, rfl, A, c, rfl, hkk⟩
        have k4 := (hgw.block _ (lt_of_some H4.out) (fun e => by injection e with e; omega)).trans H4.out
        have k5 := (hgw.block _ (lt_of_some H5.out) (fun e => by injection e with e; omega)).trans H5.out
        have k6 := (hgw.block _ (lt_of_some H6.out) (fun e => by injection e with e; omega)).trans H6.out
        have HB5 : Hid (Below w.heap.size w w5) := Lib.hid (HB4.out.grown hgw (by have := HB4.out.size; exact this) (fun q e => by cases e; omega))
        have x4 := (in_box k4 0).1
        have y4 := (in_box k4 0).2
        have x5 := (in_box k5 0).1
        have y5 := (in_box k5 0).2
        have x6 := (in_box k6 0).1
        have y6 := (in_box k6 0).2
        simp at x4 x5 x6
        have HKK := Lib.hid hkk
        have K4 := Lib.hid k4
        have K5 := Lib.hid k5
        have K6 := Lib.hid k6
        obtain ⟨c0, c1, c2, f2, hlt⟩ := hrw.at
        clear hgw hrw k4 k5 k6 hkk
        go_wp2_with fail
        refine leaves_cons (f := 21) (args := #[.pointer (some ⟨w.heap.size, 0, none⟩), .pointer (some ⟨w.heap.size + 1, 0, none⟩), .pointer (some ⟨w.heap.size + 1 + 1, 0, none⟩)]) (by simp) (by simp [go_sem]) ?_
        refine (catch_idle _ _ _ _).mono ?_
        rintro e u' w'' ⟨rfl, rfl, rfl⟩
        obtain ⟨wf, hwf⟩ : ∃ wf, wf = (((w5.setCell ⟨w.heap.size, 0, none⟩ (.slice A xs.length c)).setCell ⟨w.heap.size, 0, none⟩ (.slice A xs.length c)).setCell ⟨w.heap.size + 1, 0, none⟩ (.int .i64 0)).setCell ⟨w.heap.size + 1 + 1, 0, none⟩ (.int .i64 0) := ⟨_, rfl⟩
        rw [← hwf]
        have l4 := block_lt_of_cell x4
        have hb9 : Below w.heap.size w wf := by rw [hwf]; exact (((HB5.out.setCell (Nat.le_refl _) _).setCell (Nat.le_refl _) _).setCell (Nat.le_succ _) _).setCell (by show w.heap.size ≤ w.heap.size + 1 + 1; omega) _
        have hk9 : ∀ b, w.heap.size + 1 + 1 < b → wf.heap[b]? = w5.heap[b]? := fun b hb => by
          rw [hwf, Below.heap_setCell _ ⟨w.heap.size + 1 + 1, 0, none⟩ _ _ (by show b ≠ w.heap.size + 1 + 1; omega), Below.heap_setCell _ ⟨w.heap.size + 1, 0, none⟩ _ _ (by show b ≠ w.heap.size + 1; omega), Below.heap_setCell _ ⟨w.heap.size, 0, none⟩ _ _ (by show b ≠ w.heap.size; omega), Below.heap_setCell _ ⟨w.heap.size, 0, none⟩ _ _ (by show b ≠ w.heap.size; omega)]
        have hs9 : wf.heap.size = w5.heap.size := by rw [hwf]; simp only [size_set]
        have g6 : wf.heap[w.heap.size + 1 + 1]? = some (.cells #[.int .i64 0] 33 (0, 0)) := by
          rw [hwf]
          exact Go.Joins.block_setCell ((Below.heap_setCell _ ⟨w.heap.size + 1, 0, none⟩ _ _ (by show w.heap.size + 1 + 1 ≠ w.heap.size + 1; omega)).trans ((Below.heap_setCell _ ⟨w.heap.size, 0, none⟩ _ _ (by show w.heap.size + 1 + 1 ≠ w.heap.size; omega)).trans ((Below.heap_setCell _ ⟨w.heap.size, 0, none⟩ _ _ (by show w.heap.size + 1 + 1 ≠ w.heap.size; omega)).trans K6.out))) _
        have g5 : wf.heap[w.heap.size + 1]? = some (.cells #[.int .i64 0] 3 (0, 0)) := by
          rw [hwf]
          exact (Below.heap_setCell _ ⟨w.heap.size + 1 + 1, 0, none⟩ _ _ (by show w.heap.size + 1 ≠ w.heap.size + 1 + 1; omega)).trans (Go.Joins.block_setCell ((Below.heap_setCell _ ⟨w.heap.size, 0, none⟩ _ _ (by show w.heap.size + 1 ≠ w.heap.size; omega)).trans ((Below.heap_setCell _ ⟨w.heap.size, 0, none⟩ _ _ (by show w.heap.size + 1 ≠ w.heap.size; omega)).trans K5.out)) _)
        have g4 : wf.heap[w.heap.size]? = some (.cells #[.slice A xs.length c] 47 (0, 0)) := by
          rw [hwf]
          exact (Below.heap_setCell _ ⟨w.heap.size + 1 + 1, 0, none⟩ _ _ (by show w.heap.size ≠ w.heap.size + 1 + 1; omega)).trans ((Below.heap_setCell _ ⟨w.heap.size + 1, 0, none⟩ _ _ (by show w.heap.size ≠ w.heap.size + 1; omega)).trans (Go.Joins.block_setCell (Go.Joins.block_setCell K4.out _) _))
        have c4 := (in_box g4 0).1
        have c5 := (in_box g5 0).1
        have c6 := (in_box g6 0).1
        simp at c4 c5 c6
        have HB9 := Lib.hid hb9
        have HK9 := Lib.hid hk9
        have HS9 := Lib.hid hs9
        clear hwf g4 g5 g6 hb9 hk9 hs9 x4 y4 x5 y5 x6 y6 c0 c1 c2 f2 hmf hme
        simp [Leaves, settle, results, Try.results12, go_sem, c4, c5, c6]
        refine RetParse.mk _ _ _ _ HB9.out ?_
        rw [HPO.out]
        exact ⟨rfl, rfl, A, c, rfl, HKK.out.keep fun b hb => by
          have h1 : W4.heap.size ≤ b := hb.1
          have h2 := HS4.out
          have h3 := HS9.out
          have h4 : b < w5.heap.size := hb.2
          exact ⟨⟨by omega, by omega⟩, HK9.out b (by omega)⟩⟩
end Go.Proofs.Ytenmkbpdkfhbjaa
