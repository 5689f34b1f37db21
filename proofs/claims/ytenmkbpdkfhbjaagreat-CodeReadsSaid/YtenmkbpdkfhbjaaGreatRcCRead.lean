/- code.parse in the tree code.; code.Read. -/
import Derived.Test.YtenmkbpdkfhbjaaGreatRcCdParse
import Derived.Test.YtenmkbpdkfhbjaaGreatRcR3Wrap
import Derived.Test.YtenmkbpdkfhbjaaGreatRcT2Check
namespace Go.Proofs.YtenmkbpdkfhbjaaGreat
open Go Go.RowKit

set_option maxRecDepth 100000 in
set_option maxHeartbeats 16000000 in
theorem parse_tree (s : ByteArray) (hs : s.size ≤ 1000000) (w : World) : Calls Tryz.prog 40 #[.iface 97 (.agg #[]), .string s] w (RetParse 2 s w) := by
 have hmf : ∀ (fn : Fn) (first cap : Array Value) (w : World), (Instr.makeFunc fn first cap).run Tryz.prog w = .ok (.func fn first cap) w := fun _ _ _ _ => rfl
 by_cases he : s.data.toList = []
 ·have hE : s.toList.isEmpty = true := by rw [Go.Lib.toList_data, he]; rfl
  have hE2 : s.toList = [] := by rw [Go.Lib.toList_data, he]
  have HP : Hid (Cd.parseG s.data.toList 2 = .ok [] 0) := Lib.hid (by unfold Cd.parseG; rw [if_pos he])
  clear he
  go_enter_defers Tryz.func40, Tryz.ntmps40
  go_wp2_with fail
  refine leaves_cons (f := 60) (args := #[.pointer (some ⟨w.heap.size, 0, none⟩), .pointer (some ⟨w.heap.size + 1, 0, none⟩), .pointer (some ⟨w.heap.size + 1 + 1, 0, none⟩)]) (by simp) (by simp [go_sem]) ?_
  refine (catch_idle _ _ _ _).mono ?_
  rintro e u' w'' ⟨rfl, rfl, rfl⟩
  simp [Leaves, settle, results, Tryz.results40, go_sem]
  refine RetParse.mk _ _ _ _ (((((Below.refl _ _).alloc (Nat.le_refl _) _).alloc (by simp) _).alloc (by simp; omega) _).alloc (by simp; omega) _) ?_
  rw [HP.out]
  exact ⟨rfl, rfl, none, 0, rfl, RdH.nil _ _ _⟩
 ·have hE : s.toList.isEmpty = false := by
   rw [Go.Lib.toList_data]
   cases h : s.data.toList with
   | nil => exact absurd h he
   | cons a l => rfl
  have HP : Hid (Cd.parseG s.data.toList 2 = (Cd.sepG s.data.toList (Cd.treeG s.data.toList (Cd.N s.data.toList)) 32 (Cd.N s.data.toList) 0).bind fun xs k => if k < s.data.toList.length then .bad k else .ok xs k) := Lib.hid (by unfold Cd.parseG; rw [if_neg he]; rfl)
  have hme : ∀ W, (method 335 97 (.agg #[]) "ostracon/code.read").run Tryz.prog W = .ok (178, .agg #[]) W := fun _ => by kernel_rfl
  obtain ⟨W4, hW4⟩ : ∃ W4, W4 = (((w.alloc (.cells #[.slice none 0 0] 75)).alloc (.cells #[.int .i64 0] 3)).alloc (.cells #[.int .i64 0] 33)).alloc (.cells #[.iface 97 (.agg #[]), .string s, .int .i64 0] 109) := ⟨_, rfl⟩
  have hb4 : Below w.heap.size w W4 := by rw [hW4]; exact ((((Below.refl _ _).alloc (Nat.le_refl _) _).alloc (by simp) _).alloc (by simp; omega) _).alloc (by simp; omega) _
  obtain ⟨h4, h5, h6, h7, hsz4⟩ := four_alloc w (.cells #[.slice none 0 0] 75) (.cells #[.int .i64 0] 3) (.cells #[.int .i64 0] 33) (.cells #[.iface 97 (.agg #[]), .string s, .int .i64 0] 109)
  rw [← hW4] at h4 h5 h6 h7 hsz4
  have HL := Lib.hid ((fun R W hr => tread_any R (.iface 97 (.agg #[])) s (Cd.treeG s.data.toList (Cd.N s.data.toList)) 0 W hr hs (fun j U _ hu => tree_any R s hs _ j U (by unfold Cd.N; simp) hu) (fun j => Cd.tree_mono _ j)) (w.heap.size + 1 + 1 + 1) W4 ⟨h7, Nat.zero_le _⟩)
  unfold RetP at HL
  have HB4 := Lib.hid hb4
  have H4 := Lib.hid h4
  have H5 := Lib.hid h5
  have H6 := Lib.hid h6
  have HS4 := Lib.hid hsz4
  have HW4 := Lib.hid hW4
  clear he hb4 h4 h5 h6 h7 hsz4 hW4
  cases hli : Cd.sepG s.data.toList (Cd.treeG s.data.toList (Cd.N s.data.toList)) 32 (Cd.N s.data.toList) 0 with
  | bad jb =>
   rw [hli] at HL HP
   clear hli
   go_enter_defers Tryz.func40, Tryz.ntmps40
   go_upto_region 5 with fail
   rw [← HW4.out]
   go_wp2_with fail
   refine HL.out.mono ?_
   rintro e w5 ⟨hgw, rfl⟩
   have k4 := (hgw.block _ (lt_of_some H4.out) (fun e => by injection e with e; omega)).trans H4.out
   have k5 := (hgw.block _ (lt_of_some H5.out) (fun e => by injection e with e; omega)).trans H5.out
   have k6 := (hgw.block _ (lt_of_some H6.out) (fun e => by injection e with e; omega)).trans H6.out
   have HB5 : Hid (Below w.heap.size w w5) := Lib.hid (HB4.out.grown hgw (by have := HB4.out.size; exact this) (fun q e => by cases e; omega))
   refine leaves_cons (f := 60) (args := #[.pointer (some ⟨w.heap.size, 0, none⟩), .pointer (some ⟨w.heap.size + 1, 0, none⟩), .pointer (some ⟨w.heap.size + 1 + 1, 0, none⟩)]) (by simp) (by simp [go_sem]) ?_
   refine (catch_wrong _ _ _ _ _ _ jb w5 k4 k5 k6 (by omega) (by omega)).mono ?_
   rintro e u' w6 ⟨rfl, rfl, q4, q5, q6, hb6⟩
   have c4 := (in_box q4 0).1
   have c5 := (in_box q5 0).1
   have c6 := (in_box q6 0).1
   simp at c4 c5 c6
   have HB6 := Lib.hid (HB5.out.trans hb6)
   clear hgw k4 k5 k6 q4 q5 q6 hb6 hmf hme
   simp [Leaves, settle, results, Tryz.results40, go_sem, c4, c5, c6]
   refine RetParse.mk _ _ _ _ HB6.out ?_
   rw [HP.out]
   exact ⟨rfl, rfl, rfl⟩
  | ok xs k1 =>
   rw [hli] at HL HP
   clear hli
   dsimp only [Cd.R.bind] at HP
   by_cases hk : k1 < s.data.toList.length
   ·have HPB := Lib.hid (HP.out.trans (if_pos hk))
    have hk' : k1 < s.size := by simpa using hk
    have d1 : decide ((k1 : Int) < (s.size : Int)) = true := by simpa using hk'
    clear hk HP
    go_enter_defers Tryz.func40, Tryz.ntmps40
    go_upto_region 5 with fail
    rw [← HW4.out]
    go_wp2_with fail
    refine HL.out.mono ?_
    rintro e w5 ⟨hgw, hrw, _, rfl, A, c, rfl, -⟩
    have k4 := (hgw.block _ (lt_of_some H4.out) (fun e => by injection e with e; omega)).trans H4.out
    have k5 := (hgw.block _ (lt_of_some H5.out) (fun e => by injection e with e; omega)).trans H5.out
    have k6 := (hgw.block _ (lt_of_some H6.out) (fun e => by injection e with e; omega)).trans H6.out
    have HB5 : Hid (Below w.heap.size w w5) := Lib.hid (HB4.out.grown hgw (by have := HB4.out.size; exact this) (fun q e => by cases e; omega))
    have x4 := (in_box k4 0).1
    have y4 := (in_box k4 0).2
    simp at x4
    obtain ⟨w6, hw6⟩ : ∃ w6, w6 = w5.setCell ⟨w.heap.size, 0, none⟩ (.slice A xs.length c) := ⟨_, rfl⟩
    have HB6 : Hid (Below w.heap.size w w6) := Lib.hid (by rw [hw6]; exact HB5.out.setCell (Nat.le_refl _) _)
    have K4 : Hid (w6.heap[w.heap.size]? = some (.cells #[.slice A xs.length c] 75 (0, 0))) := Lib.hid (by rw [hw6]; exact Go.Joins.block_setCell k4 _)
    have K5 : Hid (w6.heap[w.heap.size + 1]? = some (.cells #[.int .i64 0] 3 (0, 0))) := Lib.hid (by rw [hw6]; exact (Below.heap_setCell _ ⟨w.heap.size, 0, none⟩ _ _ (by show w.heap.size + 1 ≠ w.heap.size; omega)).trans k5)
    have K6 : Hid (w6.heap[w.heap.size + 1 + 1]? = some (.cells #[.int .i64 0] 33 (0, 0))) := Lib.hid (by rw [hw6]; exact (Below.heap_setCell _ ⟨w.heap.size, 0, none⟩ _ _ (by show w.heap.size + 1 + 1 ≠ w.heap.size; omega)).trans k6)
    have hr6 : RdrIs (w.heap.size + 1 + 1 + 1) (.iface 97 (.agg #[])) s k1 w6 := hrw.keep (by rw [hw6]; exact Below.heap_setCell _ ⟨w.heap.size, 0, none⟩ _ _ (by show w.heap.size + 1 + 1 + 1 ≠ w.heap.size; omega))
    have HF := Lib.hid (fail_any _ _ _ _ w6 hr6)
    have HW6 := Lib.hid hw6
    obtain ⟨c0, c1, c2, f2, hlt⟩ := hr6.at
    clear hw6 hgw hrw k4 k5 k6
    go_upto_region 6 with fail
    rw [← HW6.out]
    clear x4 y4
    go_wp2_with fail
    refine HF.out.mono ?_
    rintro e w7 ⟨rfl, hb7⟩
    have k4 := (hb7.block _ (lt_of_some K4.out)).trans K4.out
    have k5 := (hb7.block _ (lt_of_some K5.out)).trans K5.out
    have k6 := (hb7.block _ (lt_of_some K6.out)).trans K6.out
    refine leaves_cons (f := 60) (args := #[.pointer (some ⟨w.heap.size, 0, none⟩), .pointer (some ⟨w.heap.size + 1, 0, none⟩), .pointer (some ⟨w.heap.size + 1 + 1, 0, none⟩)]) (by simp) (by simp [go_sem]) ?_
    refine (catch_wrong _ _ _ _ _ _ k1 w7 k4 k5 k6 (by omega) (by omega)).mono ?_
    rintro e u' w8 ⟨rfl, rfl, q4, q5, q6, hb8⟩
    have c4 := (in_box q4 0).1
    have c5 := (in_box q5 0).1
    have c6 := (in_box q6 0).1
    simp at c4 c5 c6
    have HB8 := Lib.hid ((HB6.out.trans (hb7.mono HB6.out.size)).trans hb8)
    clear k4 k5 k6 q4 q5 q6 hb7 hb8 hmf hme c0 c1 c2 f2
    simp [Leaves, settle, results, Tryz.results40, go_sem, c4, c5, c6]
    refine RetParse.mk _ _ _ _ HB8.out ?_
    rw [HPB.out]
    exact ⟨rfl, rfl, rfl⟩
   ·have HPO := Lib.hid (HP.out.trans (if_neg hk))
    have hk' : ¬ k1 < s.size := by simpa using hk
    have d1 : decide ((k1 : Int) < (s.size : Int)) = false := by simpa using hk'
    have d2 : decide (k1 < s.size) = false := by simpa using hk'
    clear hk hk' HP
    go_enter_defers Tryz.func40, Tryz.ntmps40
    go_upto_region 5 with fail
    rw [← HW4.out]
    go_wp2_with fail
    refine HL.out.mono ?_
    rintro e w5 ⟨hgw, hrw, _, rfl, A, c, rfl, hkk⟩
    have k4 := (hgw.block _ (lt_of_some H4.out) (fun e => by injection e with e; omega)).trans H4.out
    have k5 := (hgw.block _ (lt_of_some H5.out) (fun e => by injection e with e; omega)).trans H5.out
    have k6 := (hgw.block _ (lt_of_some H6.out) (fun e => by injection e with e; omega)).trans H6.out
    have HB5 : Hid (Below w.heap.size w w5) := Lib.hid (HB4.out.grown hgw (by have := HB4.out.size; exact this) (fun q e => by cases e; omega))
    have x4 := (in_box k4 0).1
    have y4 := (in_box k4 0).2
    have x5 := (in_box k5 0).1
    have y5 := (in_box k5 0).2
    have x6 := (in_box k6 0).1
    have y6 := (in_box k6 0).2
    simp at x4 x5 x6
    have HKK := Lib.hid hkk
    have K4 := Lib.hid k4
    have K5 := Lib.hid k5
    have K6 := Lib.hid k6
    obtain ⟨c0, c1, c2, f2, hlt⟩ := hrw.at
    clear hgw hrw k4 k5 k6 hkk
    go_wp2_with fail
    refine leaves_cons (f := 60) (args := #[.pointer (some ⟨w.heap.size, 0, none⟩), .pointer (some ⟨w.heap.size + 1, 0, none⟩), .pointer (some ⟨w.heap.size + 1 + 1, 0, none⟩)]) (by simp) (by simp [go_sem]) ?_
    refine (catch_idle _ _ _ _).mono ?_
    rintro e u' w'' ⟨rfl, rfl, rfl⟩
    obtain ⟨wf, hwf⟩ : ∃ wf, wf = (((w5.setCell ⟨w.heap.size, 0, none⟩ (.slice A xs.length c)).setCell ⟨w.heap.size, 0, none⟩ (.slice A xs.length c)).setCell ⟨w.heap.size + 1, 0, none⟩ (.int .i64 0)).setCell ⟨w.heap.size + 1 + 1, 0, none⟩ (.int .i64 0) := ⟨_, rfl⟩
    rw [← hwf]
    have l4 := block_lt_of_cell x4
    have hb9 : Below w.heap.size w wf := by rw [hwf]; exact (((HB5.out.setCell (Nat.le_refl _) _).setCell (Nat.le_refl _) _).setCell (Nat.le_succ _) _).setCell (by show w.heap.size ≤ w.heap.size + 1 + 1; omega) _
    have hk9 : ∀ b, w.heap.size + 1 + 1 < b → wf.heap[b]? = w5.heap[b]? := fun b hb => by
     rw [hwf, Below.heap_setCell _ ⟨w.heap.size + 1 + 1, 0, none⟩ _ _ (by show b ≠ w.heap.size + 1 + 1; omega), Below.heap_setCell _ ⟨w.heap.size + 1, 0, none⟩ _ _ (by show b ≠ w.heap.size + 1; omega), Below.heap_setCell _ ⟨w.heap.size, 0, none⟩ _ _ (by show b ≠ w.heap.size; omega), Below.heap_setCell _ ⟨w.heap.size, 0, none⟩ _ _ (by show b ≠ w.heap.size; omega)]
    have hs9 : wf.heap.size = w5.heap.size := by rw [hwf]; simp only [size_set]
    have g6 : wf.heap[w.heap.size + 1 + 1]? = some (.cells #[.int .i64 0] 33 (0, 0)) := by
     rw [hwf]
     exact Go.Joins.block_setCell ((Below.heap_setCell _ ⟨w.heap.size + 1, 0, none⟩ _ _ (by show w.heap.size + 1 + 1 ≠ w.heap.size + 1; omega)).trans ((Below.heap_setCell _ ⟨w.heap.size, 0, none⟩ _ _ (by show w.heap.size + 1 + 1 ≠ w.heap.size; omega)).trans ((Below.heap_setCell _ ⟨w.heap.size, 0, none⟩ _ _ (by show w.heap.size + 1 + 1 ≠ w.heap.size; omega)).trans K6.out))) _
    have g5 : wf.heap[w.heap.size + 1]? = some (.cells #[.int .i64 0] 3 (0, 0)) := by
     rw [hwf]
     exact (Below.heap_setCell _ ⟨w.heap.size + 1 + 1, 0, none⟩ _ _ (by show w.heap.size + 1 ≠ w.heap.size + 1 + 1; omega)).trans (Go.Joins.block_setCell ((Below.heap_setCell _ ⟨w.heap.size, 0, none⟩ _ _ (by show w.heap.size + 1 ≠ w.heap.size; omega)).trans ((Below.heap_setCell _ ⟨w.heap.size, 0, none⟩ _ _ (by show w.heap.size + 1 ≠ w.heap.size; omega)).trans K5.out)) _)
    have g4 : wf.heap[w.heap.size]? = some (.cells #[.slice A xs.length c] 75 (0, 0)) := by
     rw [hwf]
     exact (Below.heap_setCell _ ⟨w.heap.size + 1 + 1, 0, none⟩ _ _ (by show w.heap.size ≠ w.heap.size + 1 + 1; omega)).trans ((Below.heap_setCell _ ⟨w.heap.size + 1, 0, none⟩ _ _ (by show w.heap.size ≠ w.heap.size + 1; omega)).trans (Go.Joins.block_setCell (Go.Joins.block_setCell K4.out _) _))
    have c4 := (in_box g4 0).1
    have c5 := (in_box g5 0).1
    have c6 := (in_box g6 0).1
    simp at c4 c5 c6
    have HB9 := Lib.hid hb9
    have HK9 := Lib.hid hk9
    have HS9 := Lib.hid hs9
    clear hwf g4 g5 g6 hb9 hk9 hs9 x4 y4 x5 y5 x6 y6 c0 c1 c2 f2 hmf hme
    simp [Leaves, settle, results, Tryz.results40, go_sem, c4, c5, c6]
    refine RetParse.mk _ _ _ _ HB9.out ?_
    rw [HPO.out]
    exact ⟨rfl, rfl, A, c, rfl, HKK.out.keep fun b hb => by
     have h1 : W4.heap.size ≤ b := hb.1
     have h2 := HS4.out
     have h3 := HS9.out
     have h4 : b < w5.heap.size := hb.2
     exact ⟨⟨by omega, by omega⟩, HK9.out b (by omega)⟩⟩
end Go.Proofs.YtenmkbpdkfhbjaaGreat
namespace Go.Proofs.YtenmkbpdkfhbjaaGreat
open Go Go.RowKit

def coderV (kind : Int) : Value := if kind = 1 then .iface 96 (.agg #[]) else if kind = 2 then .iface 97 (.agg #[]) else Value.nilIface
def coderE (kind : Int) : Int := if kind = 1 ∨ kind = 2 then 0 else 1
theorem coderOf_any (kind : Int) (w : World) : Calls Tryz.prog 35 #[.int .i64 kind] w (fun e w' => e = .returned (.tuple #[coderV kind, .int .i64 (coderE kind)]) ∧ w' = w) := by
 by_cases k1 : kind = 1
 ·subst k1
  go_enter Tryz.func35, Tryz.ntmps35
  go_wp2_with fail
  refine bodyPost_ret (results_tmp2 rfl _ _ _) rfl ?_
  exact ⟨rfl, rfl⟩
 ·by_cases k2 : kind = 2
  ·subst k2
   go_enter Tryz.func35, Tryz.ntmps35
   go_wp2_with fail
   refine bodyPost_ret (results_tmp2 rfl _ _ _) rfl ?_
   exact ⟨rfl, rfl⟩
  ·have t1 : (kind == 1) = false := by simp [k1]
   have t2 : (kind == 2) = false := by simp [k2]
   have HV : Hid (coderV kind = Value.nilIface ∧ coderE kind = 1) := Lib.hid ⟨by unfold coderV; rw [if_neg k1, if_neg k2], if_neg (by omega)⟩
   clear k1 k2
   go_enter Tryz.func35, Tryz.ntmps35
   go_wp2_with fail
   refine bodyPost_ret (results_tmp2 rfl _ _ _) rfl ?_
   rw [HV.out.1, HV.out.2]
   exact ⟨rfl, rfl⟩
theorem results_read {tmps : Array Value} {w : World} {g : Nat} {u v7 v8 : Value} (hp : tmps.getD 6 undef = .pointer (some ⟨g, 0, none⟩)) (h7 : tmps.getD 7 undef = v7) (h8 : tmps.getD 8 undef = v8) (hg : w.heap[g]? = some (.cells #[u] 27 (0, 0))) :
  (results Tryz.f19 tmps).run Tryz.prog w = .ok (.tuple #[.agg #[u], v7, v8]) w := by
 have hp' : tmps[6]?.getD undef = .pointer (some ⟨g, 0, none⟩) := by simpa using hp
 have h7' : tmps[7]?.getD undef = v7 := by simpa using h7
 have h8' : tmps[8]?.getD undef = v8 := by simpa using h8
 have hl : w.cell? ⟨g, 0, none⟩ = some u := bx_cell hg
 simp only [results, show Tryz.f19.results = #[.cell 6 27, .tmp 7, .tmp 8] from rfl]
 simp [hp', h7', h8', asAddr, hl, go_sem, Sem.run_bind, Result.andThen]
theorem upd_below {ok : Nat → Prop} {f : List UInt8 → Int} {W W' : World} {B : Nat} (h : Upd ok f W W') (hB : ∀ b, b < B → ¬ ok b) : Below B W W' := ⟨h.os, h.tape, h.output, Nat.le_of_eq h.size.symm, fun b hb => h.only b (hB b hb)⟩
def RetRead (q : List Tx.Node × Int × Int) (w : World) (e : Ending) (w' : World) : Prop :=
 ∃ A c, e = .returned (.tuple #[.agg #[.slice A q.1.length c], .int .i64 q.2.1, .int .i64 q.2.2]) ∧ Below w.heap.size w w' ∧ w'.ownsRow w.heap.size 59 8 (.slice A q.1.length c) q.1.length (q.1.flatMap encN)
theorem RetRead.nil {q : List Tx.Node × Int × Int} {a b : Int} {w w' : World} (hq : q = ([], a, b)) (hb : Below w.heap.size w w') : RetRead q w (.returned (.tuple #[.agg #[.slice none 0 0], .int .i64 a, .int .i64 b])) w' := by
 subst hq
 exact ⟨none, 0, rfl, hb, World.ownsRow_nil _ _ _ _⟩
set_option maxRecDepth 100000 in
set_option maxHeartbeats 16000000 in
theorem Read_any (kind : Int) (l : Sg.SList) (vl : Value) (s : ByteArray) (hs0 : s.size ≤ maxLen) (w : World) (hl : RdSL w w.heap.size vl l) : Calls Tryz.prog 19 #[.int .i64 kind, vl, .string s] w (RetRead (Cd.readV kind l s.data.toList) w) := by
 have HL := Lib.hid hl
 obtain ⟨⟨us, rfl, hsg⟩, -⟩ := hl
 obtain ⟨As, cs, rfl, -⟩ := id hsg
 clear hsg
 obtain ⟨Z, hZ⟩ : ∃ Z, Z = w.heap.size := ⟨_, rfl⟩
 have HZ := Lib.hid hZ
 obtain ⟨cv, hcv⟩ : ∃ cv, cv = coderV kind := ⟨_, rfl⟩
 obtain ⟨ck, hck⟩ : ∃ ck : Int, ck = coderE kind := ⟨_, rfl⟩
 have HCO : Hid (∀ W, Calls Tryz.prog 35 #[.int .i64 kind] W (fun e w' => e = .returned (.tuple #[cv, .int .i64 ck]) ∧ w' = W)) := Lib.hid fun W => by rw [hcv, hck]; exact coderOf_any kind W
 have HCV := Lib.hid hcv
 have HCK := Lib.hid hck
 have HSI : Hid (s.data.toList.length = s.size) := Lib.hid (by simp)
 have HM := Lib.hid hs0
 clear hcv hck hs0
 go_enter Tryz.func19, Tryz.ntmps19
 go_wp2_with fail
 rw [← hZ]
 refine at_worldF ?_
 intro WL hWL
 have hbl : Below Z w WL := by rw [hWL, hZ]; exact ((Below.refl _ _).alloc (Nat.le_refl _) _).alloc (by simp) _
 have hsz : WL.heap.size = Z + 2 := by rw [hWL, hZ]; simp
 have b0 : WL.heap[Z]? = some (.cells #[.int .i64 l.periods, .slice As l.signs.length cs] 24 (0, 0)) := by rw [hWL, hZ]; exact heap_alloc2_old _ _ _
 have b1 : WL.heap[Z + 1]? = some (.cells #[.slice none 0 0] 27 (0, 0)) := by rw [hWL, hZ]; exact heap_alloc2_new _ _ _
 clear hWL
 refine (HCO.out WL).mono ?_
 rintro e w1 ⟨rfl, hw1⟩
 subst hw1
 have HB := Lib.hid hbl
 have HB0 := Lib.hid b0
 have HB1 := Lib.hid b1
 have OWN : Hid (∀ W : World, Below (Z + 2) w1 W → W.cell? ⟨Z, 0, none⟩ = some (.int .i64 l.periods) ∧ W.cell? ⟨Z, 1, none⟩ = some (.slice As l.signs.length cs) ∧ W.cell? ⟨Z + 1, 0, none⟩ = some (.slice none 0 0) ∧ W.frozen? ⟨Z + 1, 0, none⟩ = false ∧ Below w.heap.size w W) := Lib.hid fun W hW => by
  have e0 := (hW.block Z (by omega)).trans HB0.out
  have e1 := (hW.block (Z + 1) (by omega)).trans HB1.out
  refine ⟨by simp [World.cell?, e0], by simp [World.cell?, e0], by simp [World.cell?, e1], bx_free e1, ?_⟩
  rw [← HZ.out]
  exact HB.out.trans (hW.mono (by omega))
 have HERR : Hid (∀ (W : World) (a b : Int), Below (Z + 2) w1 W → Cd.readV kind l s.data.toList = ([], a, b) → (W.setCell ⟨Z + 1, 0, none⟩ (.slice none 0 0)).heap[Z + 1]? = some (.cells #[.slice none 0 0] 27 (0, 0)) ∧ RetRead (Cd.readV kind l s.data.toList) w (.returned (.tuple #[.agg #[.slice none 0 0], .int .i64 a, .int .i64 b])) (W.setCell ⟨Z + 1, 0, none⟩ (.slice none 0 0))) := Lib.hid fun W a b hW hq => by
  have e1 := (hW.block (Z + 1) (by omega)).trans HB1.out
  refine ⟨bx_set e1, RetRead.nil hq ((OWN.out W hW).2.2.2.2.setCell (p := ⟨Z + 1, 0, none⟩) (by show w.heap.size ≤ Z + 1; have := HZ.out; omega) _)⟩
 obtain ⟨x0, x1, x2, x3, -⟩ := OWN.out w1 (Below.refl _ _)
 clear hbl b0 b1 hZ
 by_cases kk : kind = 1 ∨ kind = 2
 case neg =>
  have hq : Cd.readV kind l s.data.toList = ([], 0, 1) := by unfold Cd.readV; rw [if_pos (by omega)]
  have hk1 : ck = 1 := by rw [HCK.out]; exact if_neg kk
  have HQ := Lib.hid (HERR.out w1 0 1 (Below.refl _ _) hq)
  clear hq kk
  subst hk1
  go_wp2_with fail
  refine bodyPost_ret (results_read rfl rfl rfl HQ.out.1) rfl HQ.out.2
 have hk1 : ck = 0 := by rw [HCK.out]; exact if_pos kk
 have HKK := Lib.hid kk
 subst hk1
 clear kk
 obtain ⟨ec, hec⟩ : ∃ ec, ec = Sg.checkV l := ⟨_, rfl⟩
 have HEC := Lib.hid hec
 have HSC : Hid (Calls Tryz.prog 39 #[.agg #[.int .i64 l.periods, .slice As l.signs.length cs]] w1 (RetIB ec w1)) := Lib.hid (by rw [hec]; exact gCheck_any _ l w1 (HL.out.keep (OWN.out w1 (Below.refl _ _)).2.2.2.2.size (OWN.out w1 (Below.refl _ _)).2.2.2.2))
 clear hec
 go_wp2_with fail
 refine HSC.out.mono ?_
 rintro e w3 ⟨rfl, hb3⟩
 have hb3' : Below (Z + 2) w1 w3 := hb3.mono (by omega)
 have HB3 := Lib.hid hb3'
 obtain ⟨x0, x1, x2, x3, -⟩ := OWN.out w3 hb3'
 have hs3 : Z + 2 ≤ w3.heap.size := by have := hb3.size; omega
 clear hb3 hb3' HSC
 by_cases k0 : ec = 0
 case neg =>
  have hq : Cd.readV kind l s.data.toList = ([], 0, ec) := by unfold Cd.readV; rw [if_neg (by have := HKK.out; omega), ← HEC.out, if_pos k0]
  have HQ := Lib.hid (HERR.out w3 0 ec HB3.out hq)
  have t0 : (ec == 0) = false := by simp [k0]
  have t0' : (ec != 0) = true := by simp [k0]
  clear hq k0
  go_wp2_with fail
  refine bodyPost_ret (results_read rfl rfl rfl HQ.out.1) rfl HQ.out.2
 subst k0
 by_cases k1 : 65536 < s.size
 ·have hq : Cd.readV kind l s.data.toList = ([], 0, 2) := by unfold Cd.readV; rw [if_neg (by have := HKK.out; omega), ← HEC.out, if_neg (by simp), if_pos (by have := HSI.out; omega)]
  have HQ := Lib.hid (HERR.out w3 0 2 HB3.out hq)
  have k1I : (65536 : Int) < (s.size : Int) := by omega
  clear hq k1
  go_wp2_with fail
  refine bodyPost_ret (results_read rfl rfl rfl HQ.out.1) rfl HQ.out.2
 have k1I : ¬ (65536 : Int) < (s.size : Int) := by omega
 have HS6 : Hid (s.size ≤ 65536) := Lib.hid (by omega)
 have HRV : Hid (Cd.readV kind l s.data.toList = match Cd.parseG s.data.toList kind with
   | .bad k => ([], (k : Int), 4)
   | .ok xs _ => match Cd.unknownV l (Cd.codesL xs) with
    | some k => ([], (k : Int), 23)
    | none => if Tx.checkT l (Cd.flatL 0 (Cd.resL (Cd.signIx l) xs)) ≠ 0 then ([], 0, Tx.checkT l (Cd.flatL 0 (Cd.resL (Cd.signIx l) xs))) else (Cd.flatL 0 (Cd.resL (Cd.signIx l) xs), 0, 0)) := Lib.hid (by
  unfold Cd.readV
  rw [if_neg (by have := HKK.out; omega), ← HEC.out, if_neg (by simp), if_neg (by have := HSI.out; omega)]
  cases Cd.parseG s.data.toList kind with
  | bad k => rfl
  | ok xs k => simp only; cases Cd.unknownV l (Cd.codesL xs) <;> rfl)
 have HPA : Hid (Calls Tryz.prog 40 #[cv, .string s] w3 (RetParse kind s w3)) := Lib.hid (by
  rw [HCV.out]
  rcases HKK.out with rfl | rfl
  ·exact parse_line s (by have := HS6.out; omega) w3
  ·exact parse_tree s (by have := HS6.out; omega) w3)
 clear k1
 unfold RetParse at HPA
 cases hp : Cd.parseG s.data.toList kind with
 | bad pk =>
  rw [hp] at HPA HRV
  clear hp
  go_wp2_with fail
  refine HPA.out.mono ?_
  rintro e w4 ⟨v, n, er, rfl, hb4, rfl, rfl, rfl⟩
  have hb4' : Below (Z + 2) w1 w4 := HB3.out.trans (hb4.mono (by omega))
  have HQ := Lib.hid (HERR.out w4 pk 4 hb4' HRV.out)
  obtain ⟨x0, x1, x2, x3, -⟩ := OWN.out w4 hb4'
  clear hb4 hb4'
  go_wp2_with fail
  refine bodyPost_ret (results_read rfl rfl rfl HQ.out.1) rfl HQ.out.2
 | ok xs pk =>
  rw [hp] at HPA HRV
  have HSZ := Lib.hid (Cd.parse_size hp)
  clear hp
  go_wp2_with fail
  refine HPA.out.mono ?_
  rintro e w4 ⟨v, n, er, rfl, hb4, rfl, rfl, Ax, cx, rfl, hrd⟩
  have hb4' : Below (Z + 2) w1 w4 := HB3.out.trans (hb4.mono (by omega))
  have hs4 : Z + 2 ≤ w4.heap.size := by have := hb4.size; omega
  have HB4 := Lib.hid hb4'
  obtain ⟨x0, x1, x2, x3, hbw4⟩ := OWN.out w4 hb4'
  have HRS : Hid (Calls Tryz.prog 41 #[.agg #[.int .i64 l.periods, .slice As l.signs.length cs], .slice Ax xs.length cx] w4 (RetRes l (fun b => w3.heap.size ≤ b ∧ b < w4.heap.size) Ax cx xs w4)) := Lib.hid (resolve_any _ l HEC.out.symm _ Ax cx xs w4 (HL.out.keep hbw4.size hbw4) (fun b hb => hb.2) hrd (fun q hq => by have := HSZ.out.2 q hq; omega))
  clear hb4 hb4' hrd hbw4 HPA
  unfold RetRes at HRS
  obtain ⟨un, hun⟩ : ∃ un, un = Cd.unknownV l (Cd.codesL xs) := ⟨_, rfl⟩
  rw [← hun] at HRS
  have HUN := Lib.hid hun
  clear hun
  cases un with
  | some uk =>
   have hq : Cd.readV kind l s.data.toList = ([], (uk : Int), 23) := by rw [HRV.out, ← HUN.out]
   have HRQ := Lib.hid hq
   clear hq
   go_wp2_with fail
   refine HRS.out.mono ?_
   rintro e w5 ⟨⟨W5, hbW, hup⟩, rfl⟩
   have hb5 : Below (Z + 2) w1 w5 := HB4.out.trans ((hbW.mono hs4).trans (upd_below hup fun b hb h => by omega))
   have HQ := Lib.hid (HERR.out w5 uk 23 hb5 HRQ.out)
   obtain ⟨x0, x1, x2, x3, -⟩ := OWN.out w5 hb5
   have d1 : decide ((0 : Int) ≤ (uk : Int)) = true := by simp
   clear hbW hup hb5 HRS
   go_wp2_with fail
   refine bodyPost_ret (results_read rfl rfl rfl HQ.out.1) rfl HQ.out.2
  | none =>
   go_wp2_with fail
   refine HRS.out.mono ?_
   rintro e w5 ⟨⟨W5, hbW, hup⟩, rfl, hit⟩
   have hb5 : Below (Z + 2) w1 w5 := HB4.out.trans ((hbW.mono hs4).trans (upd_below hup fun b hb h => by omega))
   have hs5 : w4.heap.size ≤ w5.heap.size := by have := hbW.size; have := hup.size; omega
   have HB5 := Lib.hid hb5
   obtain ⟨x0, x1, x2, x3, -⟩ := OWN.out w5 hb5
   obtain ⟨d, hd⟩ := hit.deep
   obtain ⟨ns, hns⟩ : ∃ ns, ns = Cd.flatL 0 (Cd.resL (Cd.signIx l) xs) := ⟨_, rfl⟩
   have hsl : Cd.sizeL xs ≤ 65537 := by have := HSZ.out.1; have := HSI.out; have := HS6.out; omega
   have HFL : Hid (Calls Tryz.prog 42 #[.slice none 0 0, .slice Ax xs.length cx, .int .i64 0] w5 (fun e w' => ∃ v', e = .returned v' ∧ w'.ownsRow w5.heap.size 59 8 v' ns.length (ns.flatMap encN) ∧ Below w5.heap.size w5 w')) := Lib.hid (by
    have := flat_any (Cd.signIx l) w5.heap.size _ (fun b hb => by have := hb.2; omega) d Ax cx xs 0 (.slice none 0 0) [] w5 hd (World.ownsRow_nil _ _ _ _) (Nat.le_refl _) (by omega) (by simp; omega)
    rw [hns]
    exact this)
   have HRN : Hid (Cd.readV kind l s.data.toList = if Tx.checkT l ns ≠ 0 then ([], 0, Tx.checkT l ns) else (ns, 0, 0)) := Lib.hid (by rw [HRV.out, ← HUN.out, hns])
   clear hbW hup hb5 HRS hit hd hns
   go_wp2_with fail
   refine HFL.out.mono ?_
   rintro e w6 ⟨v6, rfl, hown6, hb6⟩
   obtain ⟨A6, c6, rfl⟩ := own_form hown6
   have HO6 := Lib.hid hown6
   have hb6' : Below (Z + 2) w1 w6 := HB5.out.trans (hb6.mono (by omega))
   have hs6 := hb6.size
   have HB6 := Lib.hid hb6'
   obtain ⟨x0, x1, x2, x3, hbw6⟩ := OWN.out w6 hb6'
   have HBW6 := Lib.hid hbw6
   obtain ⟨W7, hW7⟩ : ∃ X, X = w6.setCell ⟨Z + 1, 0, none⟩ (.slice A6 ns.length c6) := ⟨_, rfl⟩
   have hs7 : W7.heap.size = w6.heap.size := by rw [hW7, size_setT]
   have HBW7 : Hid (Below w.heap.size w W7) := Lib.hid (by rw [hW7]; exact hbw6.setCell (p := ⟨Z + 1, 0, none⟩) (by show w.heap.size ≤ Z + 1; have := HZ.out; omega) _)
   have HO7 : Hid (W7.ownsRow w5.heap.size 59 8 (.slice A6 ns.length c6) ns.length (ns.flatMap encN)) := Lib.hid (by rw [hW7]; exact ownsRow_setCell_below hown6 (by show Z + 1 < w5.heap.size; omega) _)
   have HT7 : Hid (W7.heap[Z + 1]? = some (.cells #[.slice A6 ns.length c6] 27 (0, 0))) := Lib.hid (by rw [hW7]; exact bx_set ((hb6'.block (Z + 1) (by omega)).trans HB1.out))
   have HZ7 : Hid (W7.heap[Z]? = some (.cells #[.int .i64 l.periods, .slice As l.signs.length cs] 24 (0, 0))) := Lib.hid (by rw [hW7, Below.heap_setCell _ _ _ _ (by show Z ≠ Z + 1; omega)]; exact (hb6'.block Z (by omega)).trans HB0.out)
   obtain ⟨ev, hev⟩ : ∃ ev, ev = Tx.checkT l ns := ⟨_, rfl⟩
   have HGC : Hid (Calls Tryz.prog 36 #[.agg #[.int .i64 l.periods, .slice As l.signs.length cs], .agg #[.slice A6 ns.length c6]] W7 (RetE ev W7)) := Lib.hid (by rw [hev]; exact gpCheck_any l ns _ W7 A6 c6 (HL.out.keep HBW7.out.size HBW7.out) (rds_of_own len_node HO7.out))
   have HEV := Lib.hid hev
   have HW7 := Lib.hid hW7
   clear hown6 hb6 hb6' hbw6 hev HFL hW7
   go_wp2_with fail
   rw [← HW7.out]
   refine HGC.out.mono ?_
   rintro e w8 ⟨rfl, hb8⟩
   have HT8 : Hid (w8.heap[Z + 1]? = some (.cells #[.slice A6 ns.length c6] 27 (0, 0))) := Lib.hid ((hb8.block (Z + 1) (by omega)).trans HT7.out)
   have HBW8 : Hid (Below w.heap.size w w8) := Lib.hid (HBW7.out.trans (hb8.mono HBW7.out.size))
   have HO8 : Hid (w8.ownsRow w5.heap.size 59 8 (.slice A6 ns.length c6) ns.length (ns.flatMap encN)) := Lib.hid (own_below HO7.out hb8)
   have x2 : w8.cell? ⟨Z + 1, 0, none⟩ = some (.slice A6 ns.length c6) := bx_cell HT8.out
   have x3 : w8.frozen? ⟨Z + 1, 0, none⟩ = false := bx_free HT8.out
   have HZl : Hid (w.heap.size ≤ Z + 1) := Lib.hid (by have := HZ.out; omega)
   clear hb8 HGC
   by_cases ke : ev = 0
   ·have hq : Cd.readV kind l s.data.toList = (ns, 0, 0) := by rw [HRN.out, ← HEV.out, if_neg (by simp [ke])]
    have HRQ := Lib.hid hq
    clear hq
    subst ke
    go_wp2_with fail
    refine bodyPost_ret (results_read rfl rfl rfl (bx_set HT8.out)) rfl ?_
    rw [HRQ.out]
    exact ⟨A6, c6, rfl, HBW8.out.setCell (p := ⟨Z + 1, 0, none⟩) HZl.out _, (ownsRow_setCell_below HO8.out (by show Z + 1 < w5.heap.size; omega) _).mono (by have := HZ.out; omega)⟩
   ·have hq : Cd.readV kind l s.data.toList = ([], 0, ev) := by rw [HRN.out, ← HEV.out, if_pos ke]
    have HRQ := Lib.hid hq
    have t0 : (ev == 0) = false := by simp [ke]
    have t0' : (ev != 0) = true := by simp [ke]
    clear hq ke
    go_wp2_with fail
    refine bodyPost_ret (results_read rfl rfl rfl (bx_set HT8.out)) rfl ?_
    exact RetRead.nil HRQ.out (HBW8.out.setCell (p := ⟨Z + 1, 0, none⟩) HZl.out _)
end Go.Proofs.YtenmkbpdkfhbjaaGreat
