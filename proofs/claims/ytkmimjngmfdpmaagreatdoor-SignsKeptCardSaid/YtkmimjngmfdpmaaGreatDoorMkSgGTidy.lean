/- ostraconref01.put of an empty list, tidied. Made by gen_sgtidied.py. Names of the signs of a valid list: plain law. Tidy and Restrict keep what a sign says in a period: plain law. signs.Tidy. Made by gen_gtidy.py. -/
import Derived.Test.YtkmimjngmfdpmaaGreatDoorMkSgSort
import Derived.Test.YtkmimjngmfdpmaaGreatDoorMkSgTidyL
import Derived.Test.YtkmimjngmfdpmaaGreatDoorMgBegin
import Derived.Lib.ItoaLen
import Derived.Test.YtkmimjngmfdpmaaGreatDoorMgSgTidyPlain
import Derived.Test.YtkmimjngmfdpmaaGreatDoorMgSgCopy
namespace Go.Proofs.YtkmimjngmfdpmaaGreatDoor
open Go Go.RowKit

set_option maxRecDepth 100000 in
set_option maxHeartbeats 4000000 in
theorem r1putN_any (x : Sg.Value) (w : World) : Calls Tryz.prog 123 #[.slice none 0 0, .agg #[.int .i64 x.kind, .string x.text, .int .i64 x.lo, .int .i64 x.hi]] w (RetVals [x] w) := by
  obtain ⟨kv, sv, lv, hv⟩ := x
  obtain ⟨i1, hi1, hz1, hs1', hb1'⟩ := info_parts info_Value
  obtain ⟨W1, hW1⟩ : ∃ W1, W1 = w.alloc (.cells #[.int .i64 kv, .string sv, .int .i64 lv, .int .i64 hv] 60) := ⟨_, rfl⟩
  have hb1 : Below w.heap.size w W1 := by rw [hW1]; exact (Below.refl _ _).alloc (Nat.le_refl _) _
  have hX : W1.heap[w.heap.size]? = some (.cells #[.int .i64 kv, .string sv, .int .i64 lv, .int .i64 hv] 60 (0, 0)) := by rw [hW1]; exact heap_alloc_new _ _
  have hs1 : w.heap.size < W1.heap.size := (Array.getElem?_eq_some_iff.1 hX).1
  have CX : Hid (∀ W, Below W1.heap.size W1 W → W.cell? ⟨w.heap.size, 0, none⟩ = some (.int .i64 kv) ∧ W.cell? ⟨w.heap.size, 1, none⟩ = some (.string sv) ∧ W.cell? ⟨w.heap.size, 2, none⟩ = some (.int .i64 lv) ∧ W.cell? ⟨w.heap.size, 3, none⟩ = some (.int .i64 hv)) := Lib.hid fun W hW => by
    have p := (hW.block _ hs1).trans hX
    exact ⟨by simp [World.cell?, p], by simp [World.cell?, p], by simp [World.cell?, p], by simp [World.cell?, p]⟩
  have HB1 := Lib.hid hb1
  have HW1 := Lib.hid hW1
  clear hW1 hb1 hX
  go_enter Tryz.func123, Tryz.ntmps123
  go_upto_region 1 with fail
  rw [← HW1.out]
  go_wp2_with fail
  refine wp_loop_rounds 1 ?_
  rw [rounds_succ]
  go_upto_region 3 with fail
  refine wp_region_inv2T (fun T0 => PuaI T0 W1 (.slice none 0 0) 0 w.heap.size) (by kernel_rfl) (by kernel_rfl) ?g0a ?gstepa ?genda
  case g0a =>
    have hno : ∀ j, ¬ dn (Array.replicate 12 false) j := by
      intro j; unfold dn; by_cases hj : j < 12 <;> simp [Array.getD, hj]
    have na : ∀ {j : Nat} {Z : Prop}, dn (Array.replicate 12 false) j → Z := fun hj => absurd hj (hno _)
    exact ⟨_, rfl, { bel := (Below.refl _ _).drew, siz := rfl, kp := fun _ _ => rfl, k0 := rfl, k3 := rfl, k6 := rfl, p0 := na, p1 := na, p2 := na, p3 := na, p4 := na, p5 := na, p6 := na, p7 := na, p8 := na, p9 := na, p10 := na, p11 := na }⟩
  case gstepa =>
    intro T0 d a wc i hd hI hi
    obtain ⟨hlt, hnd, hpre⟩ := mem_ready hi
    have hd' : d.size = 12 := hd
    have hin : i < 12 := hlt
    clear hi hd hlt
    obtain ⟨t, rfl, h⟩ := hI
    have hcs : i = 0 ∨ i = 1 ∨ i = 2 ∨ i = 3 ∨ i = 4 ∨ i = 5 ∨ i = 6 ∨ i = 7 ∨ i = 8 ∨ i = 9 ∨ i = 10 ∨ i = 11 := by omega
    rcases hcs with rfl | rfl | rfl | rfl | rfl | rfl | rfl | rfl | rfl | rfl | rfl | rfl
    · have hi : 0 < d.size := by omega
      have q6 := h.k6
      refine wpOp_plain rfl rfl ?_
      go_simp
      exact ⟨_, rfl, { bel := h.bel, siz := (by simpa using h.siz), kp := rk h.kp, k0 := rs h.k0, k3 := rs h.k3, k6 := rs h.k6, p0 := fun _ => set_same (by have := h.siz; omega), p1 := rp hi h.p1, p2 := rp hi h.p2, p3 := rp hi h.p3, p4 := rp hi h.p4, p5 := rp hi h.p5, p6 := rp hi h.p6, p7 := rp hi h.p7, p8 := rp hi h.p8, p9 := rp hi h.p9, p10 := rp hi h.p10, p11 := rp hi h.p11 }⟩
    · have hi : 1 < d.size := by omega
      have q0 := h.k0
      refine wpOp_plain rfl rfl ?_
      go_simp
      exact ⟨_, rfl, { bel := h.bel, siz := (by simpa using h.siz), kp := rk h.kp, k0 := rs h.k0, k3 := rs h.k3, k6 := rs h.k6, p0 := rp hi h.p0, p1 := fun _ => set_same (by have := h.siz; omega), p2 := rp hi h.p2, p3 := rp hi h.p3, p4 := rp hi h.p4, p5 := rp hi h.p5, p6 := rp hi h.p6, p7 := rp hi h.p7, p8 := rp hi h.p8, p9 := rp hi h.p9, p10 := rp hi h.p10, p11 := rp hi h.p11 }⟩
    · have hi : 2 < d.size := by omega
      have e1 := h.p1 (hpre _ rfl ⟨1, .data⟩ (by simp) rfl)
      refine wpOp_plain rfl rfl ?_
      go_simp
      exact ⟨_, rfl, { bel := h.bel, siz := (by simpa using h.siz), kp := rk h.kp, k0 := rs h.k0, k3 := rs h.k3, k6 := rs h.k6, p0 := rp hi h.p0, p1 := rp hi h.p1, p2 := fun _ => set_same (by have := h.siz; omega), p3 := rp hi h.p3, p4 := rp hi h.p4, p5 := rp hi h.p5, p6 := rp hi h.p6, p7 := rp hi h.p7, p8 := rp hi h.p8, p9 := rp hi h.p9, p10 := rp hi h.p10, p11 := rp hi h.p11 }⟩
    · have hi : 3 < d.size := by omega
      have e0 := h.p0 (hpre _ rfl ⟨0, .data⟩ (by simp) rfl)
      have e2 := h.p2 (hpre _ rfl ⟨2, .data⟩ (by simp) rfl)
      refine wpOp_plain rfl rfl ?_
      go_simp
      exact ⟨_, rfl, { bel := h.bel, siz := (by simpa using h.siz), kp := rk h.kp, k0 := rs h.k0, k3 := rs h.k3, k6 := rs h.k6, p0 := rp hi h.p0, p1 := rp hi h.p1, p2 := rp hi h.p2, p3 := fun _ => set_same (by have := h.siz; omega), p4 := rp hi h.p4, p5 := rp hi h.p5, p6 := rp hi h.p6, p7 := rp hi h.p7, p8 := rp hi h.p8, p9 := rp hi h.p9, p10 := rp hi h.p10, p11 := rp hi h.p11 }⟩
    · have hi : 4 < d.size := by omega
      have e3 := h.p3 (hpre _ rfl ⟨3, .data⟩ (by simp) rfl)
      refine wpOp_plain rfl rfl ?_
      go_simp
      exact ⟨_, rfl, { bel := h.bel, siz := (by simpa using h.siz), kp := rk h.kp, k0 := rs h.k0, k3 := rs h.k3, k6 := rs h.k6, p0 := rp hi h.p0, p1 := rp hi h.p1, p2 := rp hi h.p2, p3 := rp hi h.p3, p4 := fun _ => set_same (by have := h.siz; omega), p5 := rp hi h.p5, p6 := rp hi h.p6, p7 := rp hi h.p7, p8 := rp hi h.p8, p9 := rp hi h.p9, p10 := rp hi h.p10, p11 := rp hi h.p11 }⟩
    · have hi : 5 < d.size := by omega
      refine wpOp_idle rfl (unwanted_of (d := 11) rfl rfl (h.p4 (hpre _ rfl ⟨4, .guard⟩ (by simp) rfl)) (by decide)) ?_
      exact ⟨_, rfl, { bel := h.bel, siz := (by simpa using h.siz), kp := rk h.kp, k0 := rs h.k0, k3 := rs h.k3, k6 := rs h.k6, p0 := rp hi h.p0, p1 := rp hi h.p1, p2 := rp hi h.p2, p3 := rp hi h.p3, p4 := rp hi h.p4, p5 := fun _ => set_same (by have := h.siz; show _ < t.size; omega), p6 := rp hi h.p6, p7 := rp hi h.p7, p8 := rp hi h.p8, p9 := rp hi h.p9, p10 := rp hi h.p10, p11 := rp hi h.p11 }⟩
    · have hi : 6 < d.size := by omega
      refine wpOp_idle rfl (unwanted_of (d := 11) rfl rfl (h.p4 (hpre _ rfl ⟨4, .guard⟩ (by simp) rfl)) (by decide)) ?_
      exact ⟨_, rfl, { bel := h.bel, siz := (by simpa using h.siz), kp := rk h.kp, k0 := rs h.k0, k3 := rs h.k3, k6 := rs h.k6, p0 := rp hi h.p0, p1 := rp hi h.p1, p2 := rp hi h.p2, p3 := rp hi h.p3, p4 := rp hi h.p4, p5 := rp hi h.p5, p6 := fun _ => set_same (by have := h.siz; show _ < t.size; omega), p7 := rp hi h.p7, p8 := rp hi h.p8, p9 := rp hi h.p9, p10 := rp hi h.p10, p11 := rp hi h.p11 }⟩
    · have hi : 7 < d.size := by omega
      refine wpOp_idle rfl (unwanted_of (d := 11) rfl rfl (h.p4 (hpre _ rfl ⟨4, .guard⟩ (by simp) rfl)) (by decide)) ?_
      exact ⟨_, rfl, { bel := h.bel, siz := (by simpa using h.siz), kp := rk h.kp, k0 := rs h.k0, k3 := rs h.k3, k6 := rs h.k6, p0 := rp hi h.p0, p1 := rp hi h.p1, p2 := rp hi h.p2, p3 := rp hi h.p3, p4 := rp hi h.p4, p5 := rp hi h.p5, p6 := rp hi h.p6, p7 := fun _ => set_same (by have := h.siz; show _ < t.size; omega), p8 := rp hi h.p8, p9 := rp hi h.p9, p10 := rp hi h.p10, p11 := rp hi h.p11 }⟩
    · have hi : 8 < d.size := by omega
      refine wpOp_idle rfl (unwanted_of (d := 11) rfl rfl (h.p4 (hpre _ rfl ⟨4, .guard⟩ (by simp) rfl)) (by decide)) ?_
      exact ⟨_, rfl, { bel := h.bel, siz := (by simpa using h.siz), kp := rk h.kp, k0 := rs h.k0, k3 := rs h.k3, k6 := rs h.k6, p0 := rp hi h.p0, p1 := rp hi h.p1, p2 := rp hi h.p2, p3 := rp hi h.p3, p4 := rp hi h.p4, p5 := rp hi h.p5, p6 := rp hi h.p6, p7 := rp hi h.p7, p8 := fun _ => set_same (by have := h.siz; show _ < t.size; omega), p9 := rp hi h.p9, p10 := rp hi h.p10, p11 := rp hi h.p11 }⟩
    · have hi : 9 < d.size := by omega
      refine wpOp_idle rfl (unwanted_of (d := 11) rfl rfl (h.p4 (hpre _ rfl ⟨4, .guard⟩ (by simp) rfl)) (by decide)) ?_
      exact ⟨_, rfl, { bel := h.bel, siz := (by simpa using h.siz), kp := rk h.kp, k0 := rs h.k0, k3 := rs h.k3, k6 := rs h.k6, p0 := rp hi h.p0, p1 := rp hi h.p1, p2 := rp hi h.p2, p3 := rp hi h.p3, p4 := rp hi h.p4, p5 := rp hi h.p5, p6 := rp hi h.p6, p7 := rp hi h.p7, p8 := rp hi h.p8, p9 := fun _ => set_same (by have := h.siz; show _ < t.size; omega), p10 := rp hi h.p10, p11 := rp hi h.p11 }⟩
    · have hi : 10 < d.size := by omega
      refine wpOp_idle rfl (unwanted_of (d := 11) rfl rfl (h.p4 (hpre _ rfl ⟨4, .guard⟩ (by simp) rfl)) (by decide)) ?_
      exact ⟨_, rfl, { bel := h.bel, siz := (by simpa using h.siz), kp := rk h.kp, k0 := rs h.k0, k3 := rs h.k3, k6 := rs h.k6, p0 := rp hi h.p0, p1 := rp hi h.p1, p2 := rp hi h.p2, p3 := rp hi h.p3, p4 := rp hi h.p4, p5 := rp hi h.p5, p6 := rp hi h.p6, p7 := rp hi h.p7, p8 := rp hi h.p8, p9 := rp hi h.p9, p10 := fun _ => set_same (by have := h.siz; show _ < t.size; omega), p11 := rp hi h.p11 }⟩
    · have hi : 11 < d.size := by omega
      have e4 := h.p4 (hpre _ rfl ⟨4, .data⟩ (by simp) rfl)
      have e10 := h.p10 (hpre _ rfl ⟨10, .data⟩ (by simp) rfl)
      refine wpOp_plain rfl rfl ?_
      go_simp
      exact ⟨_, rfl, { bel := h.bel, siz := (by simpa using h.siz), kp := rk h.kp, k0 := rs h.k0, k3 := rs h.k3, k6 := rs h.k6, p0 := rp hi h.p0, p1 := rp hi h.p1, p2 := rp hi h.p2, p3 := rp hi h.p3, p4 := rp hi h.p4, p5 := rp hi h.p5, p6 := rp hi h.p6, p7 := rp hi h.p7, p8 := rp hi h.p8, p9 := rp hi h.p9, p10 := rp hi h.p10, p11 := fun _ => set_same (by have := h.siz; omega) }⟩
  case genda =>
    intro d a wc hd hI hall
    obtain ⟨t, rfl, h⟩ := hI
    have hdn : ∀ j, j < 12 → dn d j := fun j hj => dn_all hd hall hj
    have hd : ∀ j, (_ : j < 12 := by decide) → dn d j := fun j hj => hdn j hj
    have hfe := frame_eq [(7, _), (8, _), (9, _), (10, _), (11, _), (12, _), (13, _), (14, _), (15, _), (16, _), (17, _), (18, _)] (h.siz.trans rfl) h.kp rfl ⟨h.p0 (hd 0), h.p1 (hd 1), h.p2 (hd 2), h.p3 (hd 3), h.p4 (hd 4), h.p5 (hd 5), h.p6 (hd 6), h.p7 (hd 7), h.p8 (hd 8), h.p9 (hd 9), h.p10 (hd 10), h.p11 (hd 11), trivial⟩
    simp only [List.foldl_cons, List.foldl_nil, List.setIfInBounds_toArray, List.set_cons_succ, List.set_cons_zero] at hfe
    have hbc := h.bel
    subst hfe
    clear h hdn hd hall
    have HBX := Lib.hid hbc
    obtain ⟨n0, n1, n2, n3⟩ := CX.out wc hbc
    clear hbc
    go_upto_region 6 with fail
    go_quiet (fail)
    generalize hwd : World.drewN _ _ = wd
    have HBD : Hid (Below W1.heap.size W1 wd) := Lib.hid (by rw [← hwd]; exact below_drewN HBX.out _)
    clear hwd n0 n1 n2 n3
    obtain ⟨n0, n1, n2, n3⟩ := CX.out wd HBD.out
    have HOS : Hid ((wd.alloc (.cells #[.int .i64 kv, .string sv, .int .i64 lv, .int .i64 hv] 60)).ownsRow W1.heap.size 60 4 (.slice none 0 0) 0 []) := Lib.hid (World.ownsRow_nil _ _ _ _)
    have HRD := Lib.hid (rd_one_value wd ⟨kv, sv, lv, hv⟩)
    have hk1 : 0 + 1 ≤ maxLen := by simp only [maxLen]; omega
    have hk2 : (0 + 1) * 40 ≤ 140737488355328 := by omega
    have hbase : W1.heap.size ≤ (wd.alloc (.cells #[.int .i64 kv, .string sv, .int .i64 lv, .int .i64 hv] 60)).heap.size := by have := HBD.out.size; simp; omega
    go_wp2_with (at_builtin; go_must (refine wpList_append_rd (enc := encValue) rfl (.tmp 40) (.tmp 42) _ rfl W1.heap.size 60 i1 _ 4 40 len_value one_value Tryz.underlying47 hi1 hz1 hs1' hb1' rfl (by decide) (.slice none 0 0) 0 [] rfl HOS.out _ (.slice (some ⟨wd.heap.size, 0, none⟩) 1 1) [(⟨kv, sv, lv, hv⟩ : Sg.Value)] rfl HRD.out hk1 hk2 hbase ?_))
    intro v8 w8 hown8 hg8 hat8
    have HB8 : Hid (Below W1.heap.size W1 w8) := Lib.hid ((HBD.out.alloc HBD.out.size _).grown hg8 hbase (fun q hq => (HOS.out.lt q hq).1))
    have HO8 : Hid (w8.ownsRow W1.heap.size 60 4 v8 1 ([(⟨kv, sv, lv, hv⟩ : Sg.Value)].flatMap encValue)) := Lib.hid (by simpa using hown8)
    clear hown8 hg8 hat8 n0 n1 n2 n3
    obtain ⟨A8, c8, hv8⟩ := own_formN HO8.out
    subst hv8
    have HRD : Hid (RdS w8 w.heap.size 4 encValue (.slice none 0 0) ([] : List Sg.Value)) := Lib.hid (rds_void (by omega))
    have hk1 : 1 + ([] : List Sg.Value).length ≤ maxLen := by simp only [maxLen, List.length_nil]; omega
    have hk2 : (1 + ([] : List Sg.Value).length) * 40 ≤ 140737488355328 := by simp only [List.length_nil]; omega
    have hbase : W1.heap.size ≤ w8.heap.size := HB8.out.size
    go_wp2_with (at_builtin; go_must (refine wpList_append_rd (enc := encValue) rfl (.tmp 44) (.tmp 47) _ rfl W1.heap.size 60 i1 _ 4 40 len_value one_value Tryz.underlying47 hi1 hz1 hs1' hb1' rfl (by decide) (.slice A8 1 c8) 1 ([(⟨kv, sv, lv, hv⟩ : Sg.Value)].flatMap encValue) rfl HO8.out w.heap.size (.slice none 0 0) ([] : List Sg.Value) rfl HRD.out hk1 hk2 hbase ?_))
    intro v9 w9 hown8 hg8 hat8
    have HB9 : Hid (Below W1.heap.size W1 w9) := Lib.hid (HB8.out.grown hg8 hbase (fun q hq => (HO8.out.lt q hq).1))
    have HO9 := Lib.hid hown8
    clear hown8 hg8 hat8
    go_wp2_with fail
    go_ret
    exact ⟨_, rfl, (own_appQ HO9.out (by simp) (by simp)).mono (Nat.le_of_lt hs1), HB1.out.trans (HB9.out.mono (by omega))⟩
/-- a list under way: nothing, or a row that reads *-/
def RdA (w : World) (v : Value) (l : List Sg.Value) : Prop := (l = [] ∧ v = .slice none 0 0) ∨ (l ≠ [] ∧ RdS w w.heap.size 4 encValue v l)
theorem Sg.putV_ne (x : Sg.Value) (l : List Sg.Value) : Sg.putV x l ≠ [] := by
  cases l with
  | nil => simp [Sg.putV]
  | cons a l =>
    unfold Sg.putV
    split
    · simp
    · split <;> simp
theorem Sg.putV_len (x : Sg.Value) : ∀ l : List Sg.Value, (Sg.putV x l).length ≤ l.length + 1
  | [] => Nat.le_refl _
  | a :: l => by
    unfold Sg.putV
    split
    · have := Sg.putV_len x l
      simp only [List.length_cons]; omega
    · split <;> simp
def RetA (l : List Sg.Value) (w : World) (e : Ending) (w' : World) : Prop := ∃ v, e = .returned v ∧ RdA w' v l ∧ Below w.heap.size w w'
theorem r1putA_any (vl : Value) (l : List Sg.Value) (x : Sg.Value) (w : World) (hr : RdA w vl l) (hlen : l.length ≤ 100000) :
    Calls Tryz.prog 123 #[vl, .agg #[.int .i64 x.kind, .string x.text, .int .i64 x.lo, .int .i64 x.hi]] w (RetA (Sg.putV x l) w) := by
  rcases hr with ⟨rfl, rfl⟩ | ⟨h, hr⟩
  · refine (r1putN_any x w).mono ?_
    rintro e w' ⟨v, rfl, hown, hb⟩
    exact ⟨v, rfl, .inr ⟨Sg.putV_ne _ _, rds_of_own len_value hown⟩, hb⟩
  · refine (r1put_any vl l x w hr h hlen).mono ?_
    rintro e w' ⟨v, rfl, hown, hb⟩
    exact ⟨v, rfl, .inr ⟨Sg.putV_ne _ _, rds_of_own len_value hown⟩, hb⟩
theorem RdA.on {w w' : World} {v : Value} {l : List Sg.Value} (h : RdA w v l) (hb : Below w.heap.size w w') : RdA w' v l := by
  rcases h with h | ⟨h, hr⟩
  · exact .inl h
  · exact .inr ⟨h, (hr.below hb).more hb.size⟩
theorem RdA.rds {w : World} {v : Value} {l : List Sg.Value} (h : RdA w v l) : RdS w w.heap.size 4 encValue v l := by
  rcases h with ⟨rfl, rfl⟩ | ⟨h, hr⟩
  · exact rds_void (by omega)
  · exact hr
/-- the points that have been put -/
def Sg.foldP (X : List Sg.Value) : List Sg.Value := X.foldl (fun acc x => Sg.putV x acc) []
theorem Sg.foldP_snoc (X : List Sg.Value) (x : Sg.Value) : Sg.foldP (X ++ [x]) = Sg.putV x (Sg.foldP X) := by unfold Sg.foldP; rw [List.foldl_append]; rfl
theorem Sg.foldP_fine {X : List Sg.Value} (h : ∀ x ∈ X, 0 ≤ x.hi ∧ x.hi ≤ 100) : ∀ x ∈ Sg.foldP X, 0 ≤ x.hi ∧ x.hi ≤ 100 := by
  revert h
  refine Lx.list_rev_ind (P := fun X => (∀ x ∈ X, 0 ≤ x.hi ∧ x.hi ≤ 100) → ∀ x ∈ Sg.foldP X, 0 ≤ x.hi ∧ x.hi ≤ 100) (fun _ x hx => by cases hx) (fun l a ih h x hx => ?_) X
  rw [Sg.foldP_snoc, Sg.putV_mem] at hx
  rcases hx with rfl | hx
  · exact h _ (by simp)
  · exact ih (fun y hy => h y (by simp [hy])) x hx
theorem Sg.pts_next {v : Sg.Value} {j : Nat} (h : j < (v.hi + 1 - v.lo).toNat) : (Sg.ptsOf v).take (j + 1) = (Sg.ptsOf v).take j ++ [⟨v.kind, v.text, v.lo + (j : Int), v.lo + (j : Int)⟩] := by
  have hlen : (Sg.ptsOf v).length = (v.hi + 1 - v.lo).toNat := by unfold Sg.ptsOf; simp
  rw [List.take_succ_eq_append_getElem (by omega)]
  congr 2
  unfold Sg.ptsOf
  simp
theorem Sg.pts_all (v : Sg.Value) : (Sg.ptsOf v).take (v.hi + 1 - v.lo).toNat = Sg.ptsOf v := List.take_of_length_le (by unfold Sg.ptsOf; simp)
/-- one point more on joined points -/
def Sg.joinS' (q : List Sg.Value) (v : Sg.Value) : List Sg.Value := match q.getLast? with
  | some u => if Sg.neq u v ∧ u.hi + 1 = v.lo then q.dropLast ++ [⟨u.kind, u.text, u.lo, v.hi⟩] else q ++ [v]
  | none => [v]
theorem Sg.joinS_cons {u : Sg.Value} {q : List Sg.Value} (v : Sg.Value) (h : q ≠ []) : Sg.joinS' (u :: q) v = u :: Sg.joinS' q v := by
  unfold Sg.joinS'
  have e : (u :: q).getLast? = q.getLast? := by
    cases q with
    | nil => exact absurd rfl h
    | cons a r => rw [List.getLast?_cons_cons]
  rw [e]
  cases hq : q.getLast? with
  | none => rw [List.getLast?_eq_none_iff] at hq; exact absurd hq h
  | some x =>
    simp only
    split
    · rw [List.dropLast_cons_of_ne_nil h, List.cons_append]
    · rfl
theorem Sg.joinR_ne (u : Sg.Value) (r : List Sg.Value) : Sg.joinR u r ≠ [] := by
  induction r generalizing u with
  | nil => simp [Sg.joinR]
  | cons v r ih =>
    unfold Sg.joinR
    split
    · exact ih _
    · simp
theorem Sg.joinR_snoc : ∀ (r : List Sg.Value) (u v : Sg.Value), Sg.joinR u (r ++ [v]) = Sg.joinS' (Sg.joinR u r) v
  | [], u, v => by
    simp only [List.nil_append, Sg.joinR, Sg.joinS', List.getLast?_singleton]
    split <;> rfl
  | x :: r, u, v => by
    rw [List.cons_append, Sg.joinR, Sg.joinR]
    split
    · exact Sg.joinR_snoc r _ v
    · rw [Sg.joinR_snoc r x v, Sg.joinS_cons v (Sg.joinR_ne x r)]
theorem Sg.joinV_next {S : List Sg.Value} {k : Nat} {y : Sg.Value} (h : S[k]? = some y) : Sg.joinV (S.take (k + 1)) = Sg.joinS' (Sg.joinV (S.take k)) y := by
  rw [List.take_add_one, h]
  show Sg.joinV (S.take k ++ [y]) = _
  cases S.take k with
  | nil => rfl
  | cons u r => exact Sg.joinR_snoc r u y
theorem Sg.joinS_app {q : List Sg.Value} {u v : Sg.Value} (h : ¬ (Sg.neq u v ∧ u.hi + 1 = v.lo)) : Sg.joinS' (q ++ [u]) v = q ++ [u] ++ [v] := by
  unfold Sg.joinS'
  rw [List.getLast?_concat]
  simp only
  rw [if_neg h]
theorem Sg.joinS_join {q : List Sg.Value} {u v : Sg.Value} (h : Sg.neq u v ∧ u.hi + 1 = v.lo) : Sg.joinS' (q ++ [u]) v = q ++ [⟨u.kind, u.text, u.lo, v.hi⟩] := by
  unfold Sg.joinS'
  rw [List.getLast?_concat]
  simp only
  rw [if_pos h, List.dropLast_concat]
theorem Sg.joinS_fine {q : List Sg.Value} {v : Sg.Value} (hq : (∀ x ∈ q, 0 ≤ x.hi ∧ x.hi ≤ 100)) (hv : 0 ≤ v.hi ∧ v.hi ≤ 100) : (∀ x ∈ Sg.joinS' q v, 0 ≤ x.hi ∧ x.hi ≤ 100) ∧ (Sg.joinS' q v).length ≤ q.length + 1 := by
  rcases Lx.list_rev_ind (P := fun q => q = [] ∨ ∃ r u, q = r ++ [u]) (.inl rfl) (fun l a _ => .inr ⟨l, a, rfl⟩) q with rfl | ⟨r, u, rfl⟩
  · refine ⟨fun x hx => ?_, Nat.le_refl _⟩
    have : x = v := by simpa [Sg.joinS'] using hx
    subst this; exact hv
  · by_cases h : Sg.neq u v ∧ u.hi + 1 = v.lo
    · rw [Sg.joinS_join h]
      refine ⟨fun x hx => ?_, by simp⟩
      rw [List.mem_append, List.mem_singleton] at hx
      rcases hx with hx | rfl
      · exact hq x (by simp [hx])
      · exact hv
    · rw [Sg.joinS_app h]
      refine ⟨fun x hx => ?_, by simp⟩
      rw [List.mem_append, List.mem_singleton] at hx
      rcases hx with hx | rfl
      · exact hq x hx
      · exact hv
theorem Sg.join_fine {S : List Sg.Value} (h : ∀ x ∈ S, 0 ≤ x.hi ∧ x.hi ≤ 100) : ∀ k, (∀ x ∈ Sg.joinV (S.take k), 0 ≤ x.hi ∧ x.hi ≤ 100) ∧ (Sg.joinV (S.take k)).length ≤ k := by
  intro k
  induction k with
  | zero => exact ⟨fun x hx => (by simp [Sg.joinV] at hx), Nat.le_refl _⟩
  | succ k ih =>
    by_cases hk : k < S.length
    · have hy : S[k]? = some S[k] := List.getElem?_eq_getElem hk
      rw [Sg.joinV_next hy]
      have := Sg.joinS_fine ih.1 (h S[k] (List.getElem_mem hk))
      exact ⟨this.1, by omega⟩
    · rw [List.take_of_length_le (by omega)]
      rw [List.take_of_length_le (by omega)] at ih
      exact ⟨ih.1, by omega⟩
def Sg.valsS (ss : List Sg.Sign) : List Sg.Value := ss.flatMap (·.values)
set_option maxRecDepth 100000 in
set_option maxHeartbeats 16000000 in
theorem r1tidied_any (v : Value) (ss : List Sg.Sign) (w : World) (hr : RdG KSign w (· < w.heap.size) v ss) (hn : ss.length ≤ 2) (hv : ∀ s ∈ ss, s.values.length ≤ 12 ∧ ∀ x ∈ s.values, 1 ≤ x.lo ∧ x.lo ≤ x.hi ∧ x.hi ≤ 9) :
    Calls Tryz.prog 85 #[v] w (RetVals (Sg.tidiedV (Sg.valsS ss)) w) := by
  obtain ⟨A0, c0, rfl⟩ := hr.form
  have HG := Lib.hid hr
  have HV := Lib.hid hv
  obtain ⟨i1, hi1, hz1, hs1', hb1'⟩ := info_parts info_Value
  clear hr hv
  go_enter Tryz.func85, Tryz.ntmps85
  go_wp2_with fail
  go_loopg [3, 4] ss.length (fun g vv i wr => ∃ (k : Nat) (acc : List Sg.Value), k ≤ ss.length ∧ g = ss.length - k ∧ i = .int .i64 (k : Nat) ∧ Below w.heap.size w wr ∧ RdA wr vv acc ∧ acc = Sg.foldP ((Sg.valsS (ss.take k)).flatMap Sg.ptsOf) ∧ acc.length ≤ 108 * k)
  case atStart => exact ⟨0, [], Nat.zero_le _, rfl, rfl, Below.refl _ _, .inl ⟨rfl, rfl⟩, rfl, Nat.le_refl _⟩
  case round =>
    obtain ⟨k, acc, hk, rfl, rfl, hbel, hra, hacc, hal⟩ := hrel
    have HBR := Lib.hid hbel
    have HRA := Lib.hid hra
    have HAC := Lib.hid hacc
    clear hacc hra
    by_cases hlt : k < ss.length
    · obtain ⟨b, off, rfl, hb, hcell⟩ := HG.out.five (by omega)
      obtain ⟨s, hs⟩ : ∃ s, ss[k]? = some s := ⟨_, List.getElem?_eq_getElem hlt⟩
      obtain ⟨uv, hrd, g0, g1, g2, g3, g4⟩ := hcell k s hs
      obtain ⟨A2, c2, rfl, hvc, hvm⟩ := rds_form hrd.rds
      have hsv := HV.out s (List.mem_of_getElem? hs)
      have hvl := hsv.1
      have HSV := Lib.hid hsv.2
      have HRV : Hid (RdS w w.heap.size 4 encValue (.slice A2 s.values.length c2) s.values) := Lib.hid hrd.rds
      have C4 : Hid (∀ W, Below w.heap.size w W → W.cell? ⟨b, off + k * 5 + 4, none⟩ = some (.slice A2 s.values.length c2)) := Lib.hid fun W hW => (hW.cell (p := ⟨b, off + k * 5 + 4, none⟩) hb).trans g4
      obtain ⟨pre, hpre⟩ : ∃ p, p = Sg.valsS (ss.take k) := ⟨_, rfl⟩
      have HPR : Hid (Sg.valsS (ss.take (k + 1)) = pre ++ s.values) := Lib.hid (by
        rw [hpre]; unfold Sg.valsS
        rw [List.take_add_one, hs, List.flatMap_append]; simp)
      rw [← hpre] at HAC
      have hkI : (0 : Int) ≤ (k : Int) := by omega
      have hkJ : (k : Int) < (ss.length : Int) := by omega
      clear hcell hs g0 g1 g2 g3 g4 hrd hsv hpre
      go_wp2_with fail
      go_loopg [3, 5] s.values.length (fun g vv i wr => ∃ (m : Nat) (acc : List Sg.Value), m ≤ s.values.length ∧ g = s.values.length - m ∧ i = .int .i64 (m : Nat) ∧ Below w.heap.size w wr ∧ RdA wr vv acc ∧ acc = Sg.foldP ((pre ++ s.values.take m).flatMap Sg.ptsOf) ∧ acc.length ≤ 108 * k + 9 * m)
      case atStart => exact ⟨0, acc, Nat.zero_le _, rfl, rfl, hbel, HRA.out, by rw [HAC.out]; simp, by omega⟩
      case round =>
        clear HRA HAC HBR hal hbel acc
        obtain ⟨m, acc, hm, rfl, rfl, hbel, hra, hacc, hal⟩ := hrel
        have HBR := Lib.hid hbel
        have HRA := Lib.hid hra
        have HAC := Lib.hid hacc
        clear hacc hra
        have x4 := C4.out _ hbel
        by_cases hmt : m < s.values.length
        · obtain ⟨y, hy⟩ : ∃ y, s.values[m]? = some y := ⟨_, List.getElem?_eq_getElem hmt⟩
          have hyf := HSV.out y (List.mem_of_getElem? hy)
          obtain ⟨ky, sy, ly, uy⟩ := y
          have hyf' : 1 ≤ ly ∧ ly ≤ uy ∧ uy ≤ 9 := hyf
          obtain ⟨b2, o2, rfl, hb2, hcv⟩ := RdX.four HRV.out (by omega)
          obtain ⟨g0, g1, g2, g3⟩ := hcv m _ hy
          have f0 := (hbel.cell (p := ⟨b2, o2 + m * 4, none⟩) hb2).trans g0
          have f1 := (hbel.cell (p := ⟨b2, o2 + m * 4 + 1, none⟩) hb2).trans g1
          have f2 := (hbel.cell (p := ⟨b2, o2 + m * 4 + 2, none⟩) hb2).trans g2
          have f3 := (hbel.cell (p := ⟨b2, o2 + m * 4 + 3, none⟩) hb2).trans g3
          obtain ⟨wS, hwS⟩ : ∃ wS, wS = wr.alloc (.cells #[.int .i64 ky, .string sy, .int .i64 ly, .int .i64 uy] 60) := ⟨_, rfl⟩
          have hbS : Below wr.heap.size wr wS := by rw [hwS]; exact (Below.refl _ _).alloc (Nat.le_refl _) _
          have hsb : wS.heap[wr.heap.size]? = some (.cells #[.int .i64 ky, .string sy, .int .i64 ly, .int .i64 uy] 60 (0, 0)) := by rw [hwS]; exact heap_alloc_new _ _
          have hszS : wr.heap.size < wS.heap.size := by rw [hwS]; simp
          obtain ⟨vb, hvb⟩ : ∃ vb, vb = wr.heap.size := ⟨_, rfl⟩
          have CVS : Hid (∀ W, Below wS.heap.size wS W → W.cell? ⟨vb, 0, none⟩ = some (.int .i64 ky) ∧ W.cell? ⟨vb, 1, none⟩ = some (.string sy) ∧ W.cell? ⟨vb, 2, none⟩ = some (.int .i64 ly) ∧ W.cell? ⟨vb, 3, none⟩ = some (.int .i64 uy)) := Lib.hid fun W hW => by
            have p := (hW.block _ hszS).trans hsb
            rw [← hvb] at p
            exact ⟨by simp [World.cell?, p], by simp [World.cell?, p], by simp [World.cell?, p], by simp [World.cell?, p]⟩
          have HBS := Lib.hid (hbel.trans (hbS.mono hbel.size))
          have HRS := Lib.hid (HRA.out.on hbS)
          have HWS := Lib.hid hwS
          have HVB := Lib.hid hvb
          have HNX : Hid (Sg.foldP ((pre ++ s.values.take (m + 1)).flatMap Sg.ptsOf) = Sg.foldP ((pre ++ s.values.take m).flatMap Sg.ptsOf ++ Sg.ptsOf ⟨ky, sy, ly, uy⟩)) := Lib.hid (by
            rw [List.take_add_one, hy, ← List.append_assoc, List.flatMap_append]; simp)
          have hmI : (0 : Int) ≤ (m : Int) := by omega
          have hmJ : (m : Int) < (s.values.length : Int) := by omega
          clear hcv hy hyf g0 g1 g2 g3 hwS hbS hsb hvb hszS
          go_upto_region 9 with fail
          rw [← HWS.out, ← HVB.out]
          clear f0 f1 f2 f3 x4
          obtain ⟨n0, n1, n2, n3⟩ := CVS.out wS (Below.refl _ _)
          go_wp2_with fail
          clear n0 n1 n2 n3
          obtain ⟨N, hN⟩ : ∃ N, N = (uy + 1 - ly).toNat := ⟨_, rfl⟩
          go_loopg [3, 7] N (fun g vv i wr => ∃ (j : Nat) (acc : List Sg.Value), j ≤ N ∧ g = N - j ∧ i = .int .i64 (ly + (j : Nat)) ∧ Below wS.heap.size wS wr ∧ RdA wr vv acc ∧ acc = Sg.foldP ((pre ++ s.values.take m).flatMap Sg.ptsOf ++ (Sg.ptsOf ⟨ky, sy, ly, uy⟩).take j) ∧ acc.length ≤ 108 * k + 9 * m + j)
          case atStart => exact ⟨0, acc, Nat.zero_le _, rfl, (by simp), Below.refl _ _, HRS.out, by rw [HAC.out]; simp, by omega⟩
          case round =>
            clear HRA HAC HRS HBR hal hbel acc
            obtain ⟨j, acc, hj, rfl, rfl, hbel, hra, hacc, hal⟩ := hrel
            have HBJ := Lib.hid hbel
            have HRA := Lib.hid hra
            have HAC := Lib.hid hacc
            clear hacc hra
            obtain ⟨n0, n1, n2, n3⟩ := CVS.out _ hbel
            by_cases hjt : j < N
            · have HPT := Lib.hid (r1putA_any _ acc ⟨ky, sy, ly + (j : Nat), ly + (j : Nat)⟩ _ HRA.out (by omega))
              have HNJ : Hid (Sg.foldP ((pre ++ s.values.take m).flatMap Sg.ptsOf ++ (Sg.ptsOf ⟨ky, sy, ly, uy⟩).take (j + 1)) = Sg.putV ⟨ky, sy, ly + (j : Nat), ly + (j : Nat)⟩ acc) := Lib.hid (by
                rw [Sg.pts_next (v := ⟨ky, sy, ly, uy⟩) (by rw [← hN]; exact hjt), ← List.append_assoc, Sg.foldP_snoc, ← HAC.out])
              have hle : ly + (j : Int) ≤ uy := by omega
              have hpl := Sg.putV_len ⟨ky, sy, ly + (j : Nat), ly + (j : Nat)⟩ acc
              obtain ⟨acc2, hacc2⟩ : ∃ a, a = Sg.putV ⟨ky, sy, ly + (j : Nat), ly + (j : Nat)⟩ acc := ⟨_, rfl⟩
              rw [← hacc2] at HPT HNJ hpl
              clear hacc2
              go_wp2_with fail
              refine HPT.out.mono ?_
              rintro e w5 ⟨v5, rfl, hra5, hb5⟩
              have HB5 := Lib.hid (HBJ.out.trans (hb5.mono HBJ.out.size))
              have HR5 := Lib.hid hra5
              clear hb5 hra5 n0 n1 n2 n3
              go_wp2_with fail
              go_roundg (N - (j + 1))
              case measure => omega
              case rel => exact ⟨j + 1, acc2, by omega, rfl, by go_num, HB5.out, HR5.out, HNJ.out.symm, by omega⟩
            · have hjN : j = N := by omega
              have hle : ¬ ly + (j : Int) ≤ uy := by omega
              have HBM := Lib.hid (HBS.out.trans (HBJ.out.mono HBS.out.size))
              have HAM : Hid (acc = Sg.foldP ((pre ++ s.values.take (m + 1)).flatMap Sg.ptsOf)) := Lib.hid (by
                rw [HNX.out, HAC.out, hjN, hN]
                rw [Sg.pts_all ⟨ky, sy, ly, uy⟩])
              have hal2 : acc.length ≤ 108 * k + 9 * (m + 1) := by omega
              clear hjN
              go_wp2_with fail
              go_roundg (s.values.length - (m + 1))
              case measure => omega
              case rel => exact ⟨m + 1, acc, by omega, rfl, by go_num, HBM.out, HRA.out, HAM.out, hal2⟩
        · have hmJ : ¬ (m : Int) < (s.values.length : Int) := by omega
          have HAK : Hid (acc = Sg.foldP ((Sg.valsS (ss.take (k + 1))).flatMap Sg.ptsOf)) := Lib.hid (by rw [HAC.out, HPR.out, List.take_of_length_le (by omega)])
          have hal2 : acc.length ≤ 108 * (k + 1) := by omega
          go_wp2_with fail
          go_roundg (ss.length - (k + 1))
          case measure => omega
          case rel => exact ⟨k + 1, acc, by omega, rfl, by go_num, HBR.out, HRA.out, HAK.out, hal2⟩
    · have HAE : Hid (acc = Sg.ptsL (Sg.valsS ss)) := Lib.hid (by rw [HAC.out, List.take_of_length_le (by omega)]; rfl)
      have hkJ : ¬ (k : Int) < (ss.length : Int) := by omega
      have HRQ := Lib.hid HRA.out.rds
      obtain ⟨A3, c3, rfl, hc3, hm3⟩ := rds_form HRQ.out
      have HAF : Hid (∀ x ∈ acc, 0 ≤ x.hi ∧ x.hi ≤ 100) := Lib.hid (by
        rw [HAC.out]
        refine Sg.foldP_fine fun x hx => ?_
        obtain ⟨u, hu, hx⟩ := List.mem_flatMap.1 hx
        obtain ⟨s, hs, hu⟩ := List.mem_flatMap.1 hu
        have h1 := (HV.out s (List.mem_of_mem_take hs)).2 u hu
        obtain ⟨-, h2, h3, h4⟩ := Sg.ptsOf_mem.1 hx
        unfold Sg.Pt at h2
        omega)
      have hal3 : acc.length ≤ 216 := by omega
      clear HRA
      go_wp2_with fail
      rename World => w3
      go_loopg [8, 9] acc.length (fun g vv i wr => ∃ (k : Nat) (q : List Sg.Value), k ≤ acc.length ∧ g = acc.length - k ∧ i = .int .i64 (k : Nat) ∧ Below w3.heap.size w3 wr ∧ wr.ownsRow w3.heap.size 60 4 vv q.length (q.flatMap encValue) ∧ Sg.joinV (acc.take k) = q)
      case atStart => exact ⟨0, [], Nat.zero_le _, rfl, rfl, Below.refl _ _, World.ownsRow_nil _ _ _ _, rfl⟩
      case round =>
        clear hlt hk hkJ hbel
        obtain ⟨k, q, hk, rfl, rfl, hbel, hown, hq⟩ := hrel
        have HB4 := Lib.hid hbel
        have hszr := hbel.size
        have HJF := Sg.join_fine HAF.out k
        rw [hq] at HJF
        by_cases hlt : k < acc.length
        · obtain ⟨y, hy⟩ : ∃ y, acc[k]? = some y := ⟨_, List.getElem?_eq_getElem hlt⟩
          have hnx := Sg.joinV_next hy
          rw [hq] at hnx
          have hyf := HAF.out y (List.mem_of_getElem? hy)
          have hql := HJF.2
          have hqf := HJF.1
          obtain ⟨kv, sv, lv, hv⟩ := y
          have hyf' : 0 ≤ hv ∧ hv ≤ 100 := hyf
          obtain ⟨b1, o1, rfl, hb1, hcv⟩ := RdX.four HRQ.out (by omega)
          obtain ⟨g0, g1, g2, g3⟩ := hcv k _ hy
          have f0 := (hbel.cell (p := ⟨b1, o1 + k * 4, none⟩) hb1).trans g0
          have f1 := (hbel.cell (p := ⟨b1, o1 + k * 4 + 1, none⟩) hb1).trans g1
          have f2 := (hbel.cell (p := ⟨b1, o1 + k * 4 + 2, none⟩) hb1).trans g2
          have f3 := (hbel.cell (p := ⟨b1, o1 + k * 4 + 3, none⟩) hb1).trans g3
          have HOK := Lib.hid hown
          have hkI : (0 : Int) ≤ (k : Int) := by omega
          have hkJ : (k : Int) < (acc.length : Int) := by omega
          clear hcv hy g0 g1 g2 g3 hq hown HJF hyf
          rcases Lx.list_rev_ind (P := fun q => q = [] ∨ ∃ r u, q = r ++ [u]) (.inl rfl) (fun l a _ => .inr ⟨l, a, rfl⟩) q with rfl | ⟨r, u, rfl⟩
          · have HNX : Hid (Sg.joinV (acc.take (k + 1)) = [] ++ [⟨kv, sv, lv, hv⟩]) := Lib.hid (by rw [hnx]; rfl)
            obtain ⟨Av, cv, rfl⟩ := own_form HOK.out
            clear hnx hqf
            go_upto_region 18 with fail
            go_quiet (fail)
            generalize hwc : World.drewN _ _ = wc
            have HXR : Hid (Below wr.heap.size wr wc) := Lib.hid (by rw [← hwc]; exact below_drewN (Below.refl _ _) _)
            have HBX := Lib.hid (HB4.out.trans (HXR.out.mono HB4.out.size))
            have y0 : wc.cell? ⟨b1, o1 + k * 4, none⟩ = some (.int .i64 kv) := by rw [← hwc]; exact f0
            have y1 : wc.cell? ⟨b1, o1 + k * 4 + 1, none⟩ = some (.string sv) := by rw [← hwc]; exact f1
            have y2 : wc.cell? ⟨b1, o1 + k * 4 + 2, none⟩ = some (.int .i64 lv) := by rw [← hwc]; exact f2
            have y3 : wc.cell? ⟨b1, o1 + k * 4 + 3, none⟩ = some (.int .i64 hv) := by rw [← hwc]; exact f3
            clear hwc f0 f1 f2 f3
            have HOS : Hid ((wc.alloc (.cells #[.int .i64 kv, .string sv, .int .i64 lv, .int .i64 hv] 60)).ownsRow w3.heap.size 60 4 (.slice Av 0 cv) 0 (([] : List Sg.Value).flatMap encValue)) := Lib.hid (keep_own HOK.out (HXR.out.alloc HXR.out.size _))
            have HRD := Lib.hid (rd_one_value wc ⟨kv, sv, lv, hv⟩)
            have hk1 : 0 + 1 ≤ maxLen := by simp only [maxLen]; omega
            have hk2 : (0 + 1) * 40 ≤ 140737488355328 := by omega
            have hbase : w3.heap.size ≤ (wc.alloc (.cells #[.int .i64 kv, .string sv, .int .i64 lv, .int .i64 hv] 60)).heap.size := by have := HBX.out.size; simp; omega
            go_wp2_with (at_builtin; go_must (refine wpList_append_rd (enc := encValue) rfl (.tmp 112) (.tmp 117) _ rfl w3.heap.size 60 i1 _ 4 40 len_value one_value Tryz.underlying47 hi1 hz1 hs1' hb1' rfl (by decide) (.slice Av 0 cv) 0 (([] : List Sg.Value).flatMap encValue) rfl HOS.out _ (.slice (some ⟨wc.heap.size, 0, none⟩) 1 1) [(⟨kv, sv, lv, hv⟩ : Sg.Value)] rfl HRD.out hk1 hk2 hbase ?_))
            intro v8 w8 hown8 hg8 hat8
            have HB8 : Hid (Below w3.heap.size w3 w8) := Lib.hid ((HBX.out.alloc HBX.out.size _).grown hg8 hbase (fun q hq => (HOS.out.lt q hq).1))
            have HO8 : Hid (w8.ownsRow w3.heap.size 60 4 v8 (([] : List Sg.Value) ++ [(⟨kv, sv, lv, hv⟩ : Sg.Value)]).length ((([] : List Sg.Value) ++ [(⟨kv, sv, lv, hv⟩ : Sg.Value)]).flatMap encValue)) := Lib.hid (own_appQ hown8 (by simp) (by simp))
            clear hown8 hg8 hat8 y0 y1 y2 y3
            go_wp2_with fail
            go_roundg (acc.length - (k + 1))
            case measure => omega
            case rel => exact ⟨k + 1, ([] : List Sg.Value) ++ [⟨kv, sv, lv, hv⟩], by omega, rfl, by go_num, HB8.out, HO8.out, HNX.out⟩
          · obtain ⟨ku, su, lu, hu⟩ := u
            obtain ⟨m, hm⟩ : ∃ m, m = r.length := ⟨_, rfl⟩
            have hl1 : (r ++ [(⟨ku, su, lu, hu⟩ : Sg.Value)]).length = m + 1 := by rw [List.length_append, hm]; rfl
            rw [hl1] at HOK hql
            obtain ⟨Av, cv, rfl⟩ := own_form HOK.out
            obtain ⟨b, rfl⟩ : ∃ b, Av = some ⟨b, 0, none⟩ := by
              rcases HOK.out.2 with ⟨-, e⟩ | ⟨g, cap, cur, e, -⟩
              · omega
              · injection e with e1
                exact ⟨g, e1⟩
            have huf : 0 ≤ hu ∧ hu ≤ 100 := hqf ⟨ku, su, lu, hu⟩ (by simp)
            have hcu := HOK.out.cells rfl
            have hat := flat_at len_value (r ++ [(⟨ku, su, lu, hu⟩ : Sg.Value)]) m ⟨ku, su, lu, hu⟩ (by rw [hm]; simp)
            have u0 := hcu (m * 4) _ (hat 0 _ rfl)
            have u1 := hcu (m * 4 + 1) _ (hat 1 _ rfl)
            have u2 := hcu (m * 4 + 2) _ (hat 2 _ rfl)
            have u3 := hcu (m * 4 + 3) _ (hat 3 _ rfl)
            rw [addr_add, Nat.zero_add] at u0 u1 u2 u3
            have z3 : wr.frozen? ⟨b, m * 4 + 3, none⟩ = false := own_free HOK.out (m * 4 + 3)
            have hm0 : (0 : Int) ≤ (m : Int) := by omega
            have hm1 : (m : Int) < (m : Int) + 1 := by omega
            have HMR := Lib.hid hm
            clear hcu hqf hl1 hm hat
            have hcs : (ku ≠ kv) ∨ (ku = kv ∧ su ≠ sv) ∨ (ku = kv ∧ su = sv ∧ hu + 1 ≠ lv) ∨ (ku = kv ∧ su = sv ∧ hu + 1 = lv) := by
              by_cases h1 : ku = kv
              · by_cases h2 : su = sv
                · by_cases h3 : hu + 1 = lv
                  · exact .inr (.inr (.inr ⟨h1, h2, h3⟩))
                  · exact .inr (.inr (.inl ⟨h1, h2, h3⟩))
                · exact .inr (.inl ⟨h1, h2⟩)
              · exact .inl h1
            rcases hcs with h1 | ⟨h0, h1⟩ | ⟨h0, h0', h1⟩ | ⟨h0, h0', h1⟩
            · have HNX : Hid (Sg.joinV (acc.take (k + 1)) = (r ++ [⟨ku, su, lu, hu⟩]) ++ [⟨kv, sv, lv, hv⟩]) := Lib.hid (by rw [hnx]; exact Sg.joinS_app fun h => h1 h.1.1)
              have e1 : (ku == kv) = false := by rw [beq_eq_false_iff_ne]; exact h1
              clear h1 hnx
              go_upto_region 18 with fail
              go_quiet (fail)
              generalize hwc : World.drewN _ _ = wc
              have HXR : Hid (Below wr.heap.size wr wc) := Lib.hid (by rw [← hwc]; exact below_drewN (Below.refl _ _) _)
              have HBX := Lib.hid (HB4.out.trans (HXR.out.mono HB4.out.size))
              have y0 : wc.cell? ⟨b1, o1 + k * 4, none⟩ = some (.int .i64 kv) := by rw [← hwc]; exact f0
              have y1 : wc.cell? ⟨b1, o1 + k * 4 + 1, none⟩ = some (.string sv) := by rw [← hwc]; exact f1
              have y2 : wc.cell? ⟨b1, o1 + k * 4 + 2, none⟩ = some (.int .i64 lv) := by rw [← hwc]; exact f2
              have y3 : wc.cell? ⟨b1, o1 + k * 4 + 3, none⟩ = some (.int .i64 hv) := by rw [← hwc]; exact f3
              clear hwc f0 f1 f2 f3
              have HOS : Hid ((wc.alloc (.cells #[.int .i64 kv, .string sv, .int .i64 lv, .int .i64 hv] 60)).ownsRow w3.heap.size 60 4 (.slice (some ⟨b, 0, none⟩) (m + 1) cv) (m + 1) ((r ++ [(⟨ku, su, lu, hu⟩ : Sg.Value)]).flatMap encValue)) := Lib.hid (keep_own HOK.out (HXR.out.alloc HXR.out.size _))
              have HRD := Lib.hid (rd_one_value wc ⟨kv, sv, lv, hv⟩)
              have hk1 : (m + 1) + 1 ≤ maxLen := by simp only [maxLen]; omega
              have hk2 : ((m + 1) + 1) * 40 ≤ 140737488355328 := by omega
              have hbase : w3.heap.size ≤ (wc.alloc (.cells #[.int .i64 kv, .string sv, .int .i64 lv, .int .i64 hv] 60)).heap.size := by have := HBX.out.size; simp; omega
              go_wp2_with (at_builtin; go_must (refine wpList_append_rd (enc := encValue) rfl (.tmp 112) (.tmp 117) _ rfl w3.heap.size 60 i1 _ 4 40 len_value one_value Tryz.underlying47 hi1 hz1 hs1' hb1' rfl (by decide) (.slice (some ⟨b, 0, none⟩) (m + 1) cv) (m + 1) ((r ++ [(⟨ku, su, lu, hu⟩ : Sg.Value)]).flatMap encValue) rfl HOS.out _ (.slice (some ⟨wc.heap.size, 0, none⟩) 1 1) [(⟨kv, sv, lv, hv⟩ : Sg.Value)] rfl HRD.out hk1 hk2 hbase ?_))
              intro v8 w8 hown8 hg8 hat8
              have HB8 : Hid (Below w3.heap.size w3 w8) := Lib.hid ((HBX.out.alloc HBX.out.size _).grown hg8 hbase (fun q hq => (HOS.out.lt q hq).1))
              have HO8 : Hid (w8.ownsRow w3.heap.size 60 4 v8 ((r ++ [(⟨ku, su, lu, hu⟩ : Sg.Value)]) ++ [(⟨kv, sv, lv, hv⟩ : Sg.Value)]).length (((r ++ [(⟨ku, su, lu, hu⟩ : Sg.Value)]) ++ [(⟨kv, sv, lv, hv⟩ : Sg.Value)]).flatMap encValue)) := Lib.hid (own_appQ hown8 (by simp; have := HMR.out; omega) (by simp))
              clear hown8 hg8 hat8 y0 y1 y2 y3
              go_wp2_with fail
              go_roundg (acc.length - (k + 1))
              case measure => omega
              case rel => exact ⟨k + 1, (r ++ [(⟨ku, su, lu, hu⟩ : Sg.Value)]) ++ [⟨kv, sv, lv, hv⟩], by omega, rfl, by go_num, HB8.out, HO8.out, HNX.out⟩
            · have HNX : Hid (Sg.joinV (acc.take (k + 1)) = (r ++ [⟨ku, su, lu, hu⟩]) ++ [⟨kv, sv, lv, hv⟩]) := Lib.hid (by rw [hnx]; exact Sg.joinS_app fun h => h1 h.1.2)
              have e1 : (ku == kv) = true := by rw [beq_iff_eq]; exact h0
              have e2 : (su.toList == sv.toList) = false := Lx.toList_ne h1
              clear h0 h1 hnx
              go_upto_region 18 with fail
              go_quiet (fail)
              generalize hwc : World.drewN _ _ = wc
              have HXR : Hid (Below wr.heap.size wr wc) := Lib.hid (by rw [← hwc]; exact below_drewN (Below.refl _ _) _)
              have HBX := Lib.hid (HB4.out.trans (HXR.out.mono HB4.out.size))
              have y0 : wc.cell? ⟨b1, o1 + k * 4, none⟩ = some (.int .i64 kv) := by rw [← hwc]; exact f0
              have y1 : wc.cell? ⟨b1, o1 + k * 4 + 1, none⟩ = some (.string sv) := by rw [← hwc]; exact f1
              have y2 : wc.cell? ⟨b1, o1 + k * 4 + 2, none⟩ = some (.int .i64 lv) := by rw [← hwc]; exact f2
              have y3 : wc.cell? ⟨b1, o1 + k * 4 + 3, none⟩ = some (.int .i64 hv) := by rw [← hwc]; exact f3
              clear hwc f0 f1 f2 f3
              have HOS : Hid ((wc.alloc (.cells #[.int .i64 kv, .string sv, .int .i64 lv, .int .i64 hv] 60)).ownsRow w3.heap.size 60 4 (.slice (some ⟨b, 0, none⟩) (m + 1) cv) (m + 1) ((r ++ [(⟨ku, su, lu, hu⟩ : Sg.Value)]).flatMap encValue)) := Lib.hid (keep_own HOK.out (HXR.out.alloc HXR.out.size _))
              have HRD := Lib.hid (rd_one_value wc ⟨kv, sv, lv, hv⟩)
              have hk1 : (m + 1) + 1 ≤ maxLen := by simp only [maxLen]; omega
              have hk2 : ((m + 1) + 1) * 40 ≤ 140737488355328 := by omega
              have hbase : w3.heap.size ≤ (wc.alloc (.cells #[.int .i64 kv, .string sv, .int .i64 lv, .int .i64 hv] 60)).heap.size := by have := HBX.out.size; simp; omega
              go_wp2_with (at_builtin; go_must (refine wpList_append_rd (enc := encValue) rfl (.tmp 112) (.tmp 117) _ rfl w3.heap.size 60 i1 _ 4 40 len_value one_value Tryz.underlying47 hi1 hz1 hs1' hb1' rfl (by decide) (.slice (some ⟨b, 0, none⟩) (m + 1) cv) (m + 1) ((r ++ [(⟨ku, su, lu, hu⟩ : Sg.Value)]).flatMap encValue) rfl HOS.out _ (.slice (some ⟨wc.heap.size, 0, none⟩) 1 1) [(⟨kv, sv, lv, hv⟩ : Sg.Value)] rfl HRD.out hk1 hk2 hbase ?_))
              intro v8 w8 hown8 hg8 hat8
              have HB8 : Hid (Below w3.heap.size w3 w8) := Lib.hid ((HBX.out.alloc HBX.out.size _).grown hg8 hbase (fun q hq => (HOS.out.lt q hq).1))
              have HO8 : Hid (w8.ownsRow w3.heap.size 60 4 v8 ((r ++ [(⟨ku, su, lu, hu⟩ : Sg.Value)]) ++ [(⟨kv, sv, lv, hv⟩ : Sg.Value)]).length (((r ++ [(⟨ku, su, lu, hu⟩ : Sg.Value)]) ++ [(⟨kv, sv, lv, hv⟩ : Sg.Value)]).flatMap encValue)) := Lib.hid (own_appQ hown8 (by simp; have := HMR.out; omega) (by simp))
              clear hown8 hg8 hat8 y0 y1 y2 y3
              go_wp2_with fail
              go_roundg (acc.length - (k + 1))
              case measure => omega
              case rel => exact ⟨k + 1, (r ++ [(⟨ku, su, lu, hu⟩ : Sg.Value)]) ++ [⟨kv, sv, lv, hv⟩], by omega, rfl, by go_num, HB8.out, HO8.out, HNX.out⟩
            · have HNX : Hid (Sg.joinV (acc.take (k + 1)) = (r ++ [⟨ku, su, lu, hu⟩]) ++ [⟨kv, sv, lv, hv⟩]) := Lib.hid (by rw [hnx]; exact Sg.joinS_app fun h => h1 h.2)
              have e1 : (ku == kv) = true := by rw [beq_iff_eq]; exact h0
              have e2 : (su.toList == sv.toList) = true := by rw [beq_iff_eq, h0']
              have e3 : (hu + 1 == lv) = false := by rw [beq_eq_false_iff_ne]; exact h1
              clear h0 h0' h1 hnx
              go_upto_region 18 with fail
              go_quiet (fail)
              generalize hwc : World.drewN _ _ = wc
              have HXR : Hid (Below wr.heap.size wr wc) := Lib.hid (by rw [← hwc]; exact below_drewN (Below.refl _ _) _)
              have HBX := Lib.hid (HB4.out.trans (HXR.out.mono HB4.out.size))
              have y0 : wc.cell? ⟨b1, o1 + k * 4, none⟩ = some (.int .i64 kv) := by rw [← hwc]; exact f0
              have y1 : wc.cell? ⟨b1, o1 + k * 4 + 1, none⟩ = some (.string sv) := by rw [← hwc]; exact f1
              have y2 : wc.cell? ⟨b1, o1 + k * 4 + 2, none⟩ = some (.int .i64 lv) := by rw [← hwc]; exact f2
              have y3 : wc.cell? ⟨b1, o1 + k * 4 + 3, none⟩ = some (.int .i64 hv) := by rw [← hwc]; exact f3
              clear hwc f0 f1 f2 f3
              have HOS : Hid ((wc.alloc (.cells #[.int .i64 kv, .string sv, .int .i64 lv, .int .i64 hv] 60)).ownsRow w3.heap.size 60 4 (.slice (some ⟨b, 0, none⟩) (m + 1) cv) (m + 1) ((r ++ [(⟨ku, su, lu, hu⟩ : Sg.Value)]).flatMap encValue)) := Lib.hid (keep_own HOK.out (HXR.out.alloc HXR.out.size _))
              have HRD := Lib.hid (rd_one_value wc ⟨kv, sv, lv, hv⟩)
              have hk1 : (m + 1) + 1 ≤ maxLen := by simp only [maxLen]; omega
              have hk2 : ((m + 1) + 1) * 40 ≤ 140737488355328 := by omega
              have hbase : w3.heap.size ≤ (wc.alloc (.cells #[.int .i64 kv, .string sv, .int .i64 lv, .int .i64 hv] 60)).heap.size := by have := HBX.out.size; simp; omega
              go_wp2_with (at_builtin; go_must (refine wpList_append_rd (enc := encValue) rfl (.tmp 112) (.tmp 117) _ rfl w3.heap.size 60 i1 _ 4 40 len_value one_value Tryz.underlying47 hi1 hz1 hs1' hb1' rfl (by decide) (.slice (some ⟨b, 0, none⟩) (m + 1) cv) (m + 1) ((r ++ [(⟨ku, su, lu, hu⟩ : Sg.Value)]).flatMap encValue) rfl HOS.out _ (.slice (some ⟨wc.heap.size, 0, none⟩) 1 1) [(⟨kv, sv, lv, hv⟩ : Sg.Value)] rfl HRD.out hk1 hk2 hbase ?_))
              intro v8 w8 hown8 hg8 hat8
              have HB8 : Hid (Below w3.heap.size w3 w8) := Lib.hid ((HBX.out.alloc HBX.out.size _).grown hg8 hbase (fun q hq => (HOS.out.lt q hq).1))
              have HO8 : Hid (w8.ownsRow w3.heap.size 60 4 v8 ((r ++ [(⟨ku, su, lu, hu⟩ : Sg.Value)]) ++ [(⟨kv, sv, lv, hv⟩ : Sg.Value)]).length (((r ++ [(⟨ku, su, lu, hu⟩ : Sg.Value)]) ++ [(⟨kv, sv, lv, hv⟩ : Sg.Value)]).flatMap encValue)) := Lib.hid (own_appQ hown8 (by simp; have := HMR.out; omega) (by simp))
              clear hown8 hg8 hat8 y0 y1 y2 y3
              go_wp2_with fail
              go_roundg (acc.length - (k + 1))
              case measure => omega
              case rel => exact ⟨k + 1, (r ++ [(⟨ku, su, lu, hu⟩ : Sg.Value)]) ++ [⟨kv, sv, lv, hv⟩], by omega, rfl, by go_num, HB8.out, HO8.out, HNX.out⟩
            · have HNX : Hid (Sg.joinV (acc.take (k + 1)) = r ++ [⟨ku, su, lu, hv⟩]) := Lib.hid (by rw [hnx]; exact Sg.joinS_join ⟨⟨h0, h0'⟩, h1⟩)
              have e1 : (ku == kv) = true := by rw [beq_iff_eq]; exact h0
              have e2 : (su.toList == sv.toList) = true := by rw [beq_iff_eq, h0']
              have e3 : (hu + 1 == lv) = true := by rw [beq_iff_eq]; exact h1
              clear h0 h0' h1 hnx
              go_upto_region 18 with fail
              go_quiet (fail)
              generalize hwc : World.drewN _ _ = wc
              have HXR : Hid (Below wr.heap.size wr wc) := Lib.hid (by rw [← hwc]; exact below_drewN (Below.refl _ _) _)
              have y3 : wc.cell? ⟨b1, o1 + k * 4 + 3, none⟩ = some (.int .i64 hv) := by rw [← hwc]; exact f3
              have z4 : wc.frozen? ⟨b, m * 4 + 3, none⟩ = false := by rw [← hwc]; exact z3
              have y4 : wc.cell? ⟨b, m * 4 + 3, none⟩ = some (.int .i64 hu) := by rw [← hwc]; exact u3
              have HOX := Lib.hid (keep_own HOK.out HXR.out)
              have HBX := Lib.hid (HB4.out.trans (HXR.out.mono HB4.out.size))
              have HBN : Hid (Below w3.heap.size w3 (wc.setCell ⟨b, m * 4 + 3, none⟩ (.int .i64 hv))) := Lib.hid (HBX.out.setCell (p := ⟨b, m * 4 + 3, none⟩) (HOX.out.lt b rfl).1 _)
              have HON : Hid ((wc.setCell ⟨b, m * 4 + 3, none⟩ (.int .i64 hv)).ownsRow w3.heap.size 60 4 (.slice (some ⟨b, 0, none⟩) (m + 1) cv) (m + 1) ((r ++ [(⟨ku, su, lu, hv⟩ : Sg.Value)]).flatMap encValue)) := Lib.hid (own_last hv HMR.out.symm HOX.out)
              clear hwc f0 f1 f2 f3 u0 u1 u2 u3 z3 e1 e2 e3
              go_wp2_with fail
              go_roundg (acc.length - (k + 1))
              case measure => omega
              case rel => exact ⟨k + 1, r ++ [⟨ku, su, lu, hv⟩], by omega, rfl, by go_num, HBN.out, by rw [own_lenM HMR.out]; exact HON.out, HNX.out⟩
        · have HE : Hid (q = Sg.tidiedV (Sg.valsS ss)) := Lib.hid (by
            rw [← hq, List.take_of_length_le (by omega), HAE.out]; rfl)
          have HBF := Lib.hid (HBR.out.trans (hbel.mono HBR.out.size))
          have hkJ : ¬ (k : Int) < (acc.length : Int) := by omega
          clear hq HJF
          go_wp2_with fail
          go_ret
          exact ⟨_, rfl, by rw [← HE.out]; exact hown.mono HBR.out.size, HBF.out⟩
end Go.Proofs.YtkmimjngmfdpmaaGreatDoor
namespace Sg
open Go
theorem check_sign {l : SList} (h : checkV l = 0) : (1 ≤ l.periods ∧ l.periods ≤ 9) ∧ l.signs.length ≤ 200 ∧ ∀ (i : Nat) (s : Sign), l.signs[i]? = some s → signV l.periods (l.signs.take i) s = 0 := by
  unfold checkV at h
  split at h
  · cases h
  · split at h
    · cases h
    · refine ⟨by omega, by omega, fun i s hs => ?_⟩
      have := firstE_ne h i (List.getElem?_eq_some_iff.1 hs).1
      rwa [signAt, hs] at this
theorem sign_parts {p : Int} {b : List Sign} {s : Sign} (h : signV p b s = 0) : codeB s.code = true ∧ b.any (fun t => decide (t.code = s.code)) = false ∧ ¬ sizeBad s ∧ s.values.length ≤ 12 ∧ valuesV p s.values = 0 := by
  unfold signV at h
  split at h
  · cases h
  · rename_i h1
    rw [not_or] at h1
    unfold bodyV at h
    split at h
    · cases h
    · split at h
      · cases h
      · exact ⟨by simpa using h1.1, by simpa using h1.2, by assumption, by omega, h⟩
theorem value_at {p : Int} {l : List Value} (h : valuesV p l = 0) {k : Nat} {v : Value} (hv : l[k]? = some v) : (1 ≤ v.kind ∧ v.kind ≤ 3 ∧ textB v.kind v.text = true) ∧ (1 ≤ v.lo ∧ v.lo ≤ v.hi ∧ v.hi ≤ p) ∧ (l.take k).any (meetB v) = false := by
  have h0 := firstE_ne h k (List.getElem?_eq_some_iff.1 hv).1
  rw [valueAt, hv] at h0
  simp only at h0
  unfold valueV at h0
  split at h0
  · cases h0
  · split at h0
    · cases h0
    · split at h0
      · cases h0
      · rename_i a b c
        rw [not_or, not_or] at a b
        exact ⟨⟨by omega, by omega, by simpa using a.2.2⟩, ⟨by omega, by omega, by omega⟩, by simpa using c⟩
/-- two values of a valid sign in use in one period that say the same are one -/
theorem values_apart {p : Int} {l : List Value} (h : valuesV p l = 0) {j k : Nat} {u v : Value} (hjk : j < k) (hu : l[j]? = some u) (hv : l[k]? = some v) {q : Int} (iu : inUseB u q = true) (iv : inUseB v q = true) (hk : u.kind = v.kind) : u.text ≠ v.text := by
  intro ht
  have h3 := (value_at h hv).2.2
  rw [List.any_eq_false] at h3
  refine h3 u (List.mem_of_getElem? (i := j) (by rw [List.getElem?_take_of_lt hjk]; exact hu)) ?_
  unfold inUseB at iu iv
  simp only [Bool.and_eq_true, decide_eq_true_eq] at iu iv
  unfold meetB
  simp only [Bool.and_eq_true, decide_eq_true_eq]
  exact ⟨⟨⟨hk.symm, ht.symm⟩, by omega⟩, by omega⟩
theorem use_mem {s : Sign} {p : Int} {k : Nat} {v : Value} (hv : (useV s p)[k]? = some v) : v ∈ s.values ∧ inUseB v p = true := by
  have h := List.mem_of_getElem? hv
  unfold useV at h
  exact List.mem_filter.1 h
theorem filter_places {α : Type} (f : α → Bool) : ∀ (l : List α) (j k : Nat) (u v : α), j < k → (l.filter f)[j]? = some u → (l.filter f)[k]? = some v → ∃ j' k' : Nat, j' < k' ∧ l[j']? = some u ∧ l[k']? = some v
  | [], _, _, _, _, _, h, _ => by simp at h
  | a :: l, j, k, u, v, hjk, h1, h2 => by
    rw [List.filter_cons] at h1 h2
    by_cases hf : f a = true
    · rw [if_pos hf] at h1 h2
      obtain ⟨k, rfl⟩ : ∃ m, k = m + 1 := ⟨k - 1, by omega⟩
      rw [List.getElem?_cons_succ] at h2
      cases j with
      | zero =>
        rw [List.getElem?_cons_zero] at h1
        have hm : v ∈ l := (List.mem_filter.1 (List.mem_of_getElem? h2)).1
        obtain ⟨m, hm⟩ := List.getElem?_of_mem hm
        exact ⟨0, m + 1, by omega, h1, by simpa using hm⟩
      | succ j =>
        rw [List.getElem?_cons_succ] at h1
        obtain ⟨j', k', h3, h4, h5⟩ := filter_places f l j k u v (by omega) h1 h2
        exact ⟨j' + 1, k' + 1, by omega, by simpa using h4, by simpa using h5⟩
    · rw [if_neg hf] at h1 h2
      obtain ⟨j', k', h3, h4, h5⟩ := filter_places f l j k u v hjk h1 h2
      exact ⟨j' + 1, k' + 1, by omega, by simpa using h4, by simpa using h5⟩
theorem use_apart {pp p : Int} {s : Sign} (h : valuesV pp s.values = 0) {j k : Nat} {u v : Value} (hjk : j < k) (hu : (useV s p)[j]? = some u) (hv : (useV s p)[k]? = some v) (hk : u.kind = v.kind) : u.text ≠ v.text := by
  obtain ⟨j', k', h1, h2, h3⟩ := filter_places _ s.values j k u v hjk hu hv
  exact values_apart h h1 h2 h3 (use_mem hu).2 (use_mem hv).2 hk
theorem mem_bear {l : List Sign} {kind : Int} {t : ByteArray} {p : Int} {i : Nat} {s : Sign} (hs : l[i]? = some s) (hh : hasB s kind t p = true) : (i : Int) ∈ bearV l kind t p := by
  unfold bearV
  rw [List.mem_map]
  refine ⟨i, ?_, rfl⟩
  rw [List.mem_filter, List.mem_range]
  exact ⟨(List.getElem?_eq_some_iff.1 hs).1, by rw [hs]; exact hh⟩
theorem use_has {s : Sign} {p : Int} {k : Nat} {v : Value} (hv : (useV s p)[k]? = some v) : hasB s v.kind v.text p = true := by
  unfold hasB
  rw [List.any_eq_true]
  obtain ⟨h1, h2⟩ := use_mem hv
  exact ⟨v, h1, by simp [h2]⟩
theorem place_mem : ∀ {l : List Int} {x : Int}, x ∈ l → ∃ q : Nat, placeOf l x = (q : Int) ∧ l[q]? = some x
  | [], _, h => by cases h
  | a :: l, x, h => by
    by_cases e : a = x
    · exact ⟨0, by rw [placeOf, if_pos e]; rfl, by simp [e]⟩
    · have h' : x ∈ l := by
        rcases List.mem_cons.1 h with h | h
        · exact absurd h.symm e
        · exact h
      obtain ⟨q, h1, h2⟩ := place_mem h'
      exact ⟨q + 1, by rw [placeOf, if_neg e, h1, if_neg (by omega)]; push_cast; rfl, by simpa using h2⟩
theorem text_nodig {t : ByteArray} (h : textB 1 t = true) : ∀ b ∈ t.data.toList, notDig b = true := by
  unfold textB at h
  rw [Bool.and_eq_true] at h
  intro b hb
  have h1 := List.all_eq_true.1 h.2 b hb
  unfold textC Lx.small upper at h1
  unfold notDig Lx.digB
  simp [UInt8.le_iff_toNat_le] at h1 ⊢
  omega
theorem take_app {p : UInt8 → Bool} : ∀ {a b : List UInt8}, (∀ x ∈ a, p x = true) → (∀ x, b[0]? = some x → p x = false) → (a ++ b).takeWhile p = a ∧ (a ++ b).dropWhile p = b
  | [], b, _, h => by
    cases b with
    | nil => exact ⟨rfl, rfl⟩
    | cons x b => have := h x rfl; simp [this]
  | x :: a, b, h1, h2 => by
    obtain ⟨i1, i2⟩ := take_app (a := a) (b := b) (fun y hy => h1 y (by simp [hy])) h2
    have := h1 x (by simp)
    simp [this, i1, i2]
/-- the digits of a place -/
def sfx (q : Nat) : List UInt8 := if q = 0 then [] else Lib.decDigits (q + 1)
theorem dec_head : ∀ n : Nat, 0 < n → (Lib.decDigits n)[0]? ≠ some 48 := by
  intro n
  induction n using Nat.strongRecOn with
  | ind n ih =>
    intro hn h
    rw [Lib.decDigits] at h
    split at h
    · rw [List.getElem?_cons_zero, Option.some.injEq] at h
      have h1 := congrArg UInt8.toNat h
      rw [UInt8.toNat_ofNat'] at h1
      have : (48 : UInt8).toNat = 48 := rfl
      omega
    · have h2 := ih (n / 10) (by omega) (by omega)
      have hne : Lib.decDigits (n / 10) ≠ [] := fun e => by
        have := (dig_of_dec (n / 10)).2
        rw [e] at this
        have e0 : Lx.digV [] = 0 := rfl
        omega
      cases e : Lib.decDigits (n / 10) with
      | nil => exact hne e
      | cons a r => rw [e] at h h2; exact h2 h
theorem sfx_ok (q : Nat) : numOk (sfx q) = true ∧ numOf (sfx q) = (q : Int) + 1 ∧ ∀ x, (sfx q)[0]? = some x → notDig x = false := by
  unfold sfx
  by_cases h : q = 0
  · subst h
    exact ⟨rfl, rfl, fun x hx => by simp at hx⟩
  · rw [if_neg h]
    obtain ⟨h1, h2⟩ := dig_of_dec (q + 1)
    have h3 := dec_head (q + 1) (by omega)
    have hne : Lib.decDigits (q + 1) ≠ [] := fun e => by
      rw [e] at h2
      have e0 : Lx.digV [] = 0 := rfl
      omega
    refine ⟨?_, ?_, fun x hx => ?_⟩
    · unfold numOk
      rw [h1, decide_eq_false h3, decide_eq_false]
      · rfl
      · intro e
        rw [e] at h2
        have : Lx.digV [49] = 1 := rfl
        omega
    · unfold numOf
      rw [if_neg hne, h2]; push_cast; rfl
    · unfold notDig
      rw [List.all_eq_true.1 h1 x (List.mem_of_getElem? hx)]
      rfl
/-- the name of a sign -/
def nameN (l : SList) (i : Nat) (t : ByteArray) (p : Int) : ByteArray := (nameV l i t p).1
theorem name_shape {l : SList} {i : Nat} {s : Sign} {p : Int} (hc : checkV l = 0) (hp : ¬ perBad l p) (hs : l.signs[i]? = some s) {t : ByteArray} (hh : hasB s 1 t p = true) :
    ∃ q : Nat, (bearV l.signs 1 t p)[q]? = some (i : Int) ∧ nameV l i t p = (bs (t.data.toList ++ sfx q), 0) := by
  obtain ⟨q, h1, h2⟩ := place_mem (mem_bear hs hh)
  refine ⟨q, h2, ?_⟩
  have hlt := (List.getElem?_eq_some_iff.1 hs).1
  have hv : valuesE l i p = 0 := by
    unfold valuesE
    rw [if_neg (by simp [hc]), if_neg (by unfold signBad; omega), if_neg hp]
  unfold nameV
  rw [if_neg (by simp [hv]), h1]
  unfold nameAt sfx
  rw [if_neg (by omega)]
  by_cases h0 : q = 0
  · rw [if_pos (by omega), if_pos h0, List.append_nil, bs_data]
  · rw [if_neg (by omega), if_neg h0]
    have e : Lib.itoa ((q : Int) + 1) = Lib.decDigits (q + 1) := by
      unfold Lib.itoa
      rw [if_neg (by omega)]
      rfl
    rw [e]
    congr 1
/-- a name is read asq its sign -/
theorem name_read {l : SList} {i : Nat} {s : Sign} {p : Int} (hc : checkV l = 0) (hp : ¬ perBad l p) (hs : l.signs[i]? = some s) {t : ByteArray} (ht : textB 1 t = true) (hh : hasB s 1 t p = true) :
    nameV l i t p = (nameN l i t p, 0) ∧ readNameV l (nameN l i t p) p = ((i : Int), t, 0) := by
  obtain ⟨q, h1, h2⟩ := name_shape hc hp hs hh
  have hn : nameN l i t p = bs (t.data.toList ++ sfx q) := by unfold nameN; rw [h2]
  refine ⟨by rw [hn, h2], ?_⟩
  rw [hn]
  obtain ⟨g1, g2, g3⟩ := sfx_ok q
  obtain ⟨k1, k2⟩ := take_app (p := notDig) (a := t.data.toList) (b := sfx q) (text_nodig ht) g3
  unfold readNameV
  rw [if_neg (by simp [hc]), if_neg hp, bs_list]
  unfold textOf digsOf
  rw [k1, k2, bs_data, if_pos ⟨ht, g1⟩, g2]
  have hlt := (List.getElem?_eq_some_iff.1 h1).1
  unfold readAt
  rw [if_neg (by omega), show ((q : Int) + 1 - 1).toNat = q by omega, List.getD, h1]
  rfl
theorem sfx_len {q : Nat} (h : q ≤ 100000) : (sfx q).length ≤ 21 := by
  unfold sfx
  split
  · simp
  · have e : Lib.itoa ((q : Int) + 1) = Lib.decDigits (q + 1) := by
      unfold Lib.itoa
      rw [if_neg (by omega)]
      rfl
    rw [← e]
    exact Lib.itoa_length_le _ (by omega) (by omega)
theorem name_size {l : SList} {i : Nat} {s : Sign} {p : Int} (hc : checkV l = 0) (hp : ¬ perBad l p) (hs : l.signs[i]? = some s) {t : ByteArray} (ht : textB 1 t = true) (hh : hasB s 1 t p = true) : (nameN l i t p).size ≤ 1000000 := by
  obtain ⟨q, h1, h2⟩ := name_shape hc hp hs hh
  have hn : nameN l i t p = bs (t.data.toList ++ sfx q) := by unfold nameN; rw [h2]
  have hq := (List.getElem?_eq_some_iff.1 h1).1
  have hb : (bearV l.signs 1 t p).length ≤ l.signs.length := by
    unfold bearV
    rw [List.length_map]
    exact Nat.le_trans (List.length_filter_le _ _) (by simp)
  have h200 := (check_sign hc).2.1
  have hx := sfx_len (q := q) (by omega)
  unfold textB at ht
  simp only [Bool.and_eq_true, decide_eq_true_eq] at ht
  have h8 := ht.1.2
  have e0 : t.data.toList.length = t.size := rfl
  have e1 : (bs (t.data.toList ++ sfx q)).size = (t.data.toList ++ sfx q).length := rfl
  rw [hn, e1, List.length_append]
  omega
/-- names so far -/
def Named (l : SList) (p : Int) (i k : Nat) (names : List ByteArray) : Prop := ∀ x ∈ names, ∃ (i' k' : Nat) (s' : Sign) (v' : Value), (i' < i ∨ (i' = i ∧ k' < k)) ∧ l.signs[i']? = some s' ∧ (useV s' p)[k']? = some v' ∧ v'.kind = 1 ∧ x = nameN l i' v'.text p
theorem named_new {l : SList} {p : Int} {i k : Nat} {names : List ByteArray} {s : Sign} {v : Value} (hc : checkV l = 0) (hp : ¬ perBad l p) (hN : Named l p i k names) (hs : l.signs[i]? = some s) (hv : (useV s p)[k]? = some v) (hk : v.kind = 1) : nameN l i v.text p ∉ names := by
  intro hm
  obtain ⟨i', k', s', v', hb, hs', hv', hk', he⟩ := hN _ hm
  have C := (check_sign hc).2.2
  have T : ∀ {j m : Nat} {r : Sign} {u : Value}, l.signs[j]? = some r → (useV r p)[m]? = some u → u.kind = 1 → textB 1 u.text = true := fun {j m r u} h1 h2 h3 => by
    obtain ⟨x, hx⟩ := List.getElem?_of_mem (use_mem h2).1
    have := (value_at (sign_parts (C j r h1)).2.2.2.2 hx).1.2.2
    rwa [h3] at this
  have r1 := (name_read hc hp hs (T hs hv hk) (by have := use_has hv; rwa [hk] at this)).2
  have r2 := (name_read hc hp hs' (T hs' hv' hk') (by have := use_has hv'; rwa [hk'] at this)).2
  rw [he, r2] at r1
  simp only [Prod.mk.injEq] at r1
  obtain ⟨e1, e2, -⟩ := r1
  have e1 : i' = i := by omega
  subst e1
  rw [hs] at hs'
  cases hs'
  rcases hb with h | ⟨-, h⟩
  · omega
  · exact use_apart (sign_parts (C _ _ hs)).2.2.2.2 h hv' hv (hk'.trans hk.symm) e2
theorem named_next {l : SList} {p : Int} {i k : Nat} {names : List ByteArray} (hN : Named l p i k names) : Named l p i (k + 1) names := fun x hx => by
  obtain ⟨i', k', s', v', hb, h⟩ := hN x hx
  exact ⟨i', k', s', v', by omega, h⟩
theorem named_row {l : SList} {p : Int} {i k : Nat} {names : List ByteArray} (hN : Named l p i k names) : Named l p (i + 1) 0 names := fun x hx => by
  obtain ⟨i', k', s', v', hb, h⟩ := hN x hx
  exact ⟨i', k', s', v', by omega, h⟩
theorem named_add {l : SList} {p : Int} {i k : Nat} {names : List ByteArray} {s : Sign} {v : Value} (hN : Named l p i k names) (hs : l.signs[i]? = some s) (hv : (useV s p)[k]? = some v) (hk : v.kind = 1) : Named l p i (k + 1) (names ++ [nameN l i v.text p]) := fun x hx => by
  rcases List.mem_append.1 hx with hx | hx
  · exact named_next hN x hx
  · rw [List.mem_singleton] at hx
    exact ⟨i, k, s, v, by omega, hs, hv, hk, hx⟩
end Sg
namespace Sg
open Go
def nmV (v : Value) : Int × ByteArray := (v.kind, v.text)
def useL (L : List Value) (p : Int) : List Value := L.filter (inUseB · p)
def sameN (x y : Value) : Bool := decide (x.kind = y.kind) && decide (x.text = y.text)
/-- the same names, each asq often -/
def alikeB (a b : List Value) : Bool := decide (a.length = b.length) && a.all fun x => b.any (sameN x)
theorem nodup_le {α : Type} : ∀ {l m : List α}, l.Nodup → (∀ x ∈ l, x ∈ m) → l.length ≤ m.length
  | [], _, _, _ => Nat.zero_le _
  | a :: l, m, h, hs => by
    obtain ⟨s, t, rfl⟩ := List.append_of_mem (hs a (by simp))
    rw [List.nodup_cons] at h
    have := nodup_le (l := l) (m := s ++ t) h.2 fun x hx => by
      have h1 := hs x (by simp [hx])
      rw [List.mem_append, List.mem_cons] at h1
      rw [List.mem_append]
      rcases h1 with h1 | h1 | h1
      · exact .inl h1
      · exact absurd (h1 ▸ hx) h.1
      · exact .inr h1
    rw [List.length_append] at this
    rw [List.length_append, List.length_cons, List.length_cons]
    omega
theorem alike_of {a b : List Value} (ha : (a.map nmV).Nodup) (hb : (b.map nmV).Nodup) (h : ∀ x, x ∈ a.map nmV ↔ x ∈ b.map nmV) : alikeB a b = true := by
  have h1 := nodup_le ha fun x hx => (h x).1 hx
  have h2 := nodup_le hb fun x hx => (h x).2 hx
  rw [List.length_map, List.length_map] at h1 h2
  unfold alikeB
  rw [Bool.and_eq_true]
  refine ⟨by simp; omega, List.all_eq_true.2 fun x hx => ?_⟩
  obtain ⟨y, hy, e⟩ := List.mem_map.1 ((h (nmV x)).1 (List.mem_map.2 ⟨x, hx, rfl⟩))
  rw [List.any_eq_true]
  refine ⟨y, hy, ?_⟩
  unfold nmV at e
  simp only [Prod.mk.injEq] at e
  unfold sameN
  simp [e.1, e.2]
theorem names_use {L : List Value} {p : Int} {x : Int × ByteArray} : x ∈ (useL L p).map nmV ↔ Cov L x.1 x.2 p := by
  unfold useL Cov nmV
  rw [List.mem_map]
  constructor
  · rintro ⟨v, hv, rfl⟩
    obtain ⟨h1, h2⟩ := List.mem_filter.1 hv
    unfold inUseB at h2
    simp only [Bool.and_eq_true, decide_eq_true_eq] at h2
    exact ⟨v, h1, rfl, rfl, h2.1, h2.2⟩
  · rintro ⟨v, h1, h2, h3, h4, h5⟩
    refine ⟨v, List.mem_filter.2 ⟨h1, by unfold inUseB; simp [h4, h5]⟩, ?_⟩
    rw [h2, h3]
theorem nodup_of_at {α : Type} {l : List α} (h : ∀ (i j : Nat) (a b : α), i < j → l[i]? = some a → l[j]? = some b → a ≠ b) : l.Nodup := by
  unfold List.Nodup
  rw [List.pairwise_iff_getElem]
  intro i j hi hj hij
  exact h i j _ _ hij (List.getElem?_eq_getElem hi) (List.getElem?_eq_getElem hj)
theorem use_nodup {pp p : Int} {L : List Value} (h : valuesV pp L = 0) : ((useL L p).map nmV).Nodup := by
  refine nodup_of_at fun i j a b hij ha hb e => ?_
  rw [List.getElem?_map] at ha hb
  obtain ⟨u, hu, rfl⟩ := Option.map_eq_some_iff.1 ha
  obtain ⟨v, hv, rfl⟩ := Option.map_eq_some_iff.1 hb
  unfold nmV at e
  simp only [Prod.mk.injEq] at e
  exact use_apart (s := ⟨⟨#[]⟩, 0, 0, false, L⟩) h hij hu hv e.1 e.2
theorem use_canon {p : Int} {L : List Value} (h : Canon L) : ((useL L p).map nmV).Nodup := by
  refine nodup_of_at fun i j a b hij ha hb e => ?_
  rw [List.getElem?_map] at ha hb
  obtain ⟨u, hu, rfl⟩ := Option.map_eq_some_iff.1 ha
  obtain ⟨v, hv, rfl⟩ := Option.map_eq_some_iff.1 hb
  unfold nmV at e
  simp only [Prod.mk.injEq] at e
  have hiu := (List.mem_filter.1 (List.mem_of_getElem? hu)).2
  have hiv := (List.mem_filter.1 (List.mem_of_getElem? hv)).2
  obtain ⟨i', j', h1, h2, h3⟩ := filter_places _ L i j u v hij hu hv
  have hp := List.pairwise_iff_getElem.1 h.2 i' j' (List.getElem?_eq_some_iff.1 h2).1 (List.getElem?_eq_some_iff.1 h3).1 h1
  rw [(List.getElem?_eq_some_iff.1 h2).2, (List.getElem?_eq_some_iff.1 h3).2] at hp
  unfold inUseB at hiu hiv
  simp only [Bool.and_eq_true, decide_eq_true_eq] at hiu hiv
  rcases hp with q | ⟨q, q'⟩
  · exact nlt_irr q ⟨e.1, e.2⟩
  · omega
/-- what the names of two rows in use say -/
theorem alike_cov {pp p q : Int} {L M : List Value} (h : valuesV pp L = 0) (hM : Canon M) (hc : ∀ k t, Cov L k t p ↔ Cov M k t q) : alikeB (useL L p) (useL M q) = true := by
  refine alike_of (use_nodup h) (use_canon hM) fun x => ?_
  rw [names_use, names_use]
  exact hc _ _
theorem kept_tidy {pp p : Int} {L : List Value} (h : valuesV pp L = 0) : alikeB (useL L p) (useL (tidiedV L) p) = true := by
  obtain ⟨h1, h2⟩ := tidied_canon L
  exact alike_cov h h1 fun k t => (h2 k t p).symm
/-- a value at the one period of a list -/
def oneV (v : Value) : Value := ⟨v.kind, v.text, 1, 1⟩
theorem use_one (L : List Value) : useL (L.map oneV) 1 = L.map oneV := by
  unfold useL
  rw [List.filter_eq_self]
  intro v hv
  obtain ⟨u, -, rfl⟩ := List.mem_map.1 hv
  rfl
theorem kept_one (L : List Value) : alikeB L (useL (L.map oneV) 1) = true := by
  rw [use_one]
  unfold alikeB
  rw [Bool.and_eq_true]
  refine ⟨by simp, List.all_eq_true.2 fun x hx => ?_⟩
  rw [List.any_eq_true]
  exact ⟨oneV x, List.mem_map.2 ⟨x, hx, rfl⟩, by simp [sameN, oneV]⟩
/-- what Tidy and Restrict make of a list -/
def tidyS (s : Sign) : Sign := ⟨s.code, s.wide, s.high, s.even, tidiedV s.values⟩
def oneS (p : Int) (s : Sign) : Sign := ⟨s.code, s.wide, s.high, s.even, (useV s p).map oneV⟩
def tidyL (l : SList) : SList := ⟨l.periods, l.signs.map tidyS⟩
def oneL (l : SList) (p : Int) : SList := ⟨1, l.signs.map (oneS p)⟩
def noL : SList := ⟨0, []⟩
def tidyR (l : SList) : SList := if checkV l = 0 then tidyL l else noL
def oneE (l : SList) (p : Int) : Int := if checkV l ≠ 0 then checkV l else if perBad l p then 13 else 0
def oneR (l : SList) (p : Int) : SList := if oneE l p = 0 then oneL l p else noL
end Sg
namespace Go.Proofs.YtkmimjngmfdpmaaGreatDoor
open Go Go.RowKit

def RetListE (q : Sg.SList) (er : Int) (w : World) (e : Ending) (w' : World) : Prop := ∃ v, e = .returned (.tuple #[v, .int .i64 er]) ∧ RdSL w' w'.heap.size v q ∧ Below w.heap.size w w'
theorem rdsl_zero (w : World) : RdSL w w.heap.size (.agg #[.int .i64 0, .slice none 0 0]) Sg.noL := ⟨⟨_, rfl, ⟨none, 0, rfl, Nat.le_refl _, by omega, fun h => absurd h (by simp [Sg.noL])⟩⟩, fun s hs => by cases hs⟩
theorem RetListE.zero {w w' : World} {q : Sg.SList} {er a : Int} (hq : q = Sg.noL) (he : er = a) (hb : Below w.heap.size w w') : RetListE q er w (.returned (.tuple #[.agg #[.int .i64 0, .slice none 0 0], .int .i64 a])) w' := by
  subst hq; subst he
  exact ⟨_, rfl, rdsl_zero w', hb⟩
/-- the texts of tidied values are texts of the values -/
theorem Sg.tidied_text {L : List Sg.Value} {x : Sg.Value} (h : x ∈ Sg.tidiedV L) : ∃ y ∈ L, y.kind = x.kind ∧ y.text = x.text := by
  obtain ⟨h1, h2⟩ := Sg.tidied_canon L
  obtain ⟨y, hy, e1, e2, -⟩ := (h2 x.kind x.text x.lo).1 ⟨x, h, rfl, rfl, Int.le_refl _, h1.1 x h⟩
  exact ⟨y, hy, e1, e2⟩
theorem Sg.tidyS_fits {s : Sg.Sign} (h : Sg.Sign.fits s) : Sg.Sign.fits (Sg.tidyS s) := ⟨h.1, fun v hv => by
  obtain ⟨y, hy, -, e⟩ := Sg.tidied_text hv
  have := h.2 y hy
  unfold Sg.Value.fits at this ⊢
  rw [← e]; exact this⟩
set_option maxRecDepth 100000 in
set_option maxHeartbeats 8000000 in
theorem gTidy_any (v : Value) (l : Sg.SList) (w : World) (hr : RdSL w w.heap.size v l) : Calls Tryz.prog 42 #[v] w (RetListE (Sg.tidyR l) (Sg.checkV l) w) := by
  have HRL := Lib.hid hr
  obtain ⟨⟨u, rfl, hg⟩, hf⟩ := hr
  obtain ⟨A0, c0, rfl⟩ := hg.form
  have HG0 := Lib.hid hg
  have HFS := Lib.hid hf
  obtain ⟨i1, hi1, hz1, hs1', hb1'⟩ := info_parts info_Sign
  obtain ⟨W1, hW1⟩ : ∃ W1, W1 = (w.alloc (.cells #[.int .i64 l.periods, .slice A0 l.signs.length c0] 24)).alloc (.cells #[.int .i64 0, .slice none 0 0] 24) := ⟨_, rfl⟩
  have hb1 : Below w.heap.size w W1 := by rw [hW1]; exact ((Below.refl _ _).alloc (Nat.le_refl _) _).alloc (by simp) _
  have hX : W1.heap[w.heap.size]? = some (.cells #[.int .i64 l.periods, .slice A0 l.signs.length c0] 24 (0, 0)) := by rw [hW1]; exact start_fst w _ _
  have hY : W1.heap[w.heap.size + 1]? = some (.cells #[.int .i64 0, .slice none 0 0] 24 (0, 0)) := by rw [hW1]; exact start_res' w _ _
  have hs1 : w.heap.size + 1 < W1.heap.size := (Array.getElem?_eq_some_iff.1 hY).1
  have x0 : W1.cell? ⟨w.heap.size, 0, none⟩ = some (.int .i64 l.periods) := by simp [World.cell?, hX]
  have x1 : W1.cell? ⟨w.heap.size, 1, none⟩ = some (.slice A0 l.signs.length c0) := by simp [World.cell?, hX]
  have HB1 := Lib.hid hb1
  have HW1 := Lib.hid hW1
  have HX1 := Lib.hid hX
  have HY1 := Lib.hid hY
  have HCK := Lib.hid (gCheck_any _ l W1 (HRL.out.on hb1))
  obtain ⟨e1, he1⟩ : ∃ e1, e1 = Sg.checkV l := ⟨_, rfl⟩
  have HE1 := Lib.hid he1
  rw [← he1] at HCK ⊢
  obtain ⟨res, hres⟩ : ∃ r, r = Sg.tidyR l := ⟨_, rfl⟩
  have HRES := Lib.hid hres
  rw [← hres]
  clear hg hf hW1 hb1 hX hY he1 hres
  go_enter Tryz.func42, Tryz.ntmps42
  go_upto_region 1 with fail
  rw [← HW1.out]
  go_wp2_with fail
  refine HCK.out.mono ?_
  rintro e w2 ⟨rfl, hb2⟩
  have HB2 := Lib.hid (HB1.out.trans (hb2.mono (by omega)))
  have hx2 := (hb2.block w.heap.size (by omega)).trans HX1.out
  have hy2 := (hb2.block (w.heap.size + 1) hs1).trans HY1.out
  have hs2 : w.heap.size + 1 < w2.heap.size := (Array.getElem?_eq_some_iff.1 hy2).1
  have HY2 := Lib.hid hy2
  clear hb2 x0 x1
  by_cases h0 : e1 = 0
  case neg =>
    have HN : Hid (res = Sg.noL) := Lib.hid (by rw [HRES.out]; unfold Sg.tidyR; rw [if_neg (by rw [← HE1.out]; exact h0)])
    have c0' : w2.cell? ⟨w.heap.size + 1, 0, none⟩ = some (.int .i64 0) := by simp [World.cell?, hy2]
    have c1' : w2.cell? ⟨w.heap.size + 1, 1, none⟩ = some (.slice none 0 0) := by simp [World.cell?, hy2]
    have z0' : w2.frozen? ⟨w.heap.size + 1, 0, none⟩ = false := by simp [World.frozen?, hy2]
    have z1' : w2.frozen? ⟨w.heap.size + 1, 1, none⟩ = false := by simp [World.frozen?, hy2]
    clear hx2 hy2
    go_wp2_with fail
    refine bodyPost_ret (v := .tuple #[.agg #[.int .i64 0, .slice none 0 0], .int .i64 e1]) (by simp [results, Tryz.results42, go_sem, c0', c1']) rfl ?_
    exact RetListE.zero HN.out rfl ((HB2.out.setCell (by show w.heap.size ≤ w.heap.size + 1; omega) _).setCell (by show w.heap.size ≤ w.heap.size + 1; omega) _)
  subst h0
  have HCL : Hid (Sg.checkV l = 0) := Lib.hid HE1.out.symm
  have HN : Hid (res = Sg.tidyL l) := Lib.hid (by rw [HRES.out]; unfold Sg.tidyR; rw [if_pos HCL.out])
  have HVF : Hid (∀ s ∈ l.signs, s.values.length ≤ 12 ∧ ∀ x ∈ s.values, 1 ≤ x.lo ∧ x.lo ≤ x.hi ∧ x.hi ≤ 100) := Lib.hid fun s hs => by
    obtain ⟨i, hi⟩ := List.getElem?_of_mem hs
    have hc := Sg.check_sign HCL.out
    have hp := Sg.sign_parts (hc.2.2 i s hi)
    refine ⟨hp.2.2.2.1, fun x hx => ?_⟩
    obtain ⟨j, hj⟩ := List.getElem?_of_mem hx
    have := (Sg.value_at hp.2.2.2.2 hj).2.1
    have := hc.1
    omega
  have hsl := (Sg.check_sign HCL.out).2.1
  have x0 : w2.cell? ⟨w.heap.size, 0, none⟩ = some (.int .i64 l.periods) := by simp [World.cell?, hx2]
  have x1 : w2.cell? ⟨w.heap.size, 1, none⟩ = some (.slice A0 l.signs.length c0) := by simp [World.cell?, hx2]
  obtain ⟨w3, hw3⟩ : ∃ w3, w3 = w2.alloc (.cells #[.int .i64 l.periods, .slice none 0 0] 24) := ⟨_, rfl⟩
  obtain ⟨ob, hob⟩ : ∃ ob, ob = w2.heap.size := ⟨_, rfl⟩
  have hb3 : Below w2.heap.size w2 w3 := by rw [hw3]; exact (Below.refl _ _).alloc (Nat.le_refl _) _
  have hz3 : w3.heap[ob]? = some (.cells #[.int .i64 l.periods, .slice none 0 0] 24 (0, 0)) := by rw [hw3, hob]; exact heap_alloc_new _ _
  have hobl : w.heap.size + 1 < ob := by omega
  have HB3 := Lib.hid (HB2.out.trans (hb3.mono (by omega)))
  have HY3 := Lib.hid ((hb3.block (w.heap.size + 1) hs2).trans hy2)
  have HX3 := Lib.hid ((hb3.block w.heap.size (by omega)).trans hx2)
  have HZ3 := Lib.hid hz3
  have HW3 := Lib.hid hw3
  have HOB := Lib.hid hob
  clear hx2 hy2 hb3 hz3 hw3 hob
  go_upto_region 5 with fail
  rw [← HW3.out, ← HOB.out]
  clear x0 x1
  have x1 : w3.cell? ⟨w.heap.size, 1, none⟩ = some (.slice A0 l.signs.length c0) := by
    have := HX3.out
    simp [World.cell?, this]
  go_wp2_with fail
  clear x1
  go_loopg [20] l.signs.length (fun g i wr => ∃ (k : Nat) (vv : Value), k ≤ l.signs.length ∧ g = l.signs.length - k ∧ i = .int .i64 (k : Nat) ∧ Below w.heap.size w wr ∧ wr.heap[w.heap.size + 1]? = some (.cells #[.int .i64 0, .slice none 0 0] 24 (0, 0)) ∧ wr.heap[ob]? = some (.cells #[.int .i64 l.periods, vv] 24 (0, 0)) ∧ OwnG KSign 67 wr (ob + 1) vv ((l.signs.take k).map Sg.tidyS))
  case atStart => exact ⟨0, .slice none 0 0, Nat.zero_le _, rfl, rfl, HB3.out, HY3.out, HZ3.out, OwnG.nil _ _ _⟩
  case round =>
    obtain ⟨k, vv, hk, rfl, rfl, hbel, hy, hz, hown⟩ := hrel
    obtain ⟨Av, cv, rfl⟩ := hown.form
    have hlt3 : ob < wr.heap.size := (Array.getElem?_eq_some_iff.1 hz).1
    have HBW := Lib.hid hbel
    have HY := Lib.hid hy
    have HZ := Lib.hid hz
    have HOK := Lib.hid hown
    have htk : ((l.signs.take k).map Sg.tidyS).length = k := by rw [List.length_map, List.length_take]; omega
    clear hbel hy hz hown
    by_cases hlt : k < l.signs.length
    · obtain ⟨b, off, rfl, hb, hcell⟩ := HG0.out.five (by omega)
      obtain ⟨s, hs⟩ : ∃ s, l.signs[k]? = some s := ⟨_, List.getElem?_eq_getElem hlt⟩
      obtain ⟨uv, hrd, g0, g1, g2, g3, g4⟩ := hcell k s hs
      have f0 := (HBW.out.cell (p := ⟨b, off + k * 5, none⟩) hb).trans g0
      have f1 := (HBW.out.cell (p := ⟨b, off + k * 5 + 1, none⟩) hb).trans g1
      have f2 := (HBW.out.cell (p := ⟨b, off + k * 5 + 2, none⟩) hb).trans g2
      have f3 := (HBW.out.cell (p := ⟨b, off + k * 5 + 3, none⟩) hb).trans g3
      have f4 := (HBW.out.cell (p := ⟨b, off + k * 5 + 4, none⟩) hb).trans g4
      obtain ⟨A2, c2, rfl, hvc, hvm⟩ := rds_form hrd.rds
      have hvl := HVF.out s (List.mem_of_getElem? hs)
      obtain ⟨wS, hwS⟩ : ∃ wS, wS = wr.alloc (.cells #[.string s.code, .int .i64 s.wide, .int .i64 s.high, .bool s.even, .slice A2 s.values.length c2] 67) := ⟨_, rfl⟩
      have hbS : Below wr.heap.size wr wS := by rw [hwS]; exact (Below.refl _ _).alloc (Nat.le_refl _) _
      have hsb : wS.heap[wr.heap.size]? = some (.cells #[.string s.code, .int .i64 s.wide, .int .i64 s.high, .bool s.even, .slice A2 s.values.length c2] 67 (0, 0)) := by rw [hwS]; exact heap_alloc_new _ _
      have hszS : wr.heap.size < wS.heap.size := by rw [hwS]; simp
      have HBWS := Lib.hid (HBW.out.trans (hbS.mono (by omega)))
      have HBS := Lib.hid hbS
      have HSB := Lib.hid hsb
      have s4 : wS.cell? ⟨wr.heap.size, 4, none⟩ = some (.slice A2 s.values.length c2) := by simp [World.cell?, hsb]
      have HTD := Lib.hid (gTidyL_any _ s.values wS ((hrd.rds.below HBWS.out).more HBWS.out.size) (by have := hvl.1; omega) hvl.2)
      obtain ⟨T, hT⟩ : ∃ T, T = Sg.tidiedV s.values := ⟨_, rfl⟩
      have HT := Lib.hid hT
      rw [← hT] at HTD
      have HS := Lib.hid hs
      have HWS := Lib.hid hwS
      have hkI : (0 : Int) ≤ (k : Int) := by omega
      have hkJ : (k : Int) < (l.signs.length : Int) := by omega
      clear hcell hs g0 g1 g2 g3 g4 hrd hwS hbS hsb hT hvl
      go_upto_region 8 with fail
      rw [← HWS.out]
      clear f0 f1 f2 f3 f4
      go_wp2_with fail
      refine HTD.out.mono ?_
      rintro e w8 ⟨v8, rfl, hown8', hb8⟩
      obtain ⟨A8, c8, rfl⟩ := own_form hown8'
      have hsz8' : wS.heap.size ≤ w8.heap.size := hb8.size
      have hsb8 := (hb8.block wr.heap.size (by omega)).trans HSB.out
      have HRX := Lib.hid (rdx_of_own len_value hown8')
      have s4 : w8.cell? ⟨wr.heap.size, 4, none⟩ = some (.slice A2 s.values.length c2) := by simp [World.cell?, hsb8]
      have y4 : w8.frozen? ⟨wr.heap.size, 4, none⟩ = false := by simp [World.frozen?, hsb8]
      obtain ⟨w9, hw9⟩ : ∃ w9, w9 = w8.setCell ⟨wr.heap.size, 4, none⟩ (.slice A8 T.length c8) := ⟨_, rfl⟩
      have hsb9 : w9.heap[wr.heap.size]? = some (.cells #[.string s.code, .int .i64 s.wide, .int .i64 s.high, .bool s.even, .slice A8 T.length c8] 67 (0, 0)) := by rw [hw9]; exact gset hsb8 _
      have hb9 : Below wr.heap.size wr w9 := by rw [hw9]; exact (HBS.out.trans (hb8.mono (by omega))).setCell (Nat.le_refl _) _
      have hsz9 : w8.heap.size ≤ w9.heap.size := by rw [hw9]; simp [World.setCell]
      have HSZ9 : Hid (w9.heap.size = w8.heap.size) := Lib.hid (by rw [hw9]; simp [World.setCell])
      have HK9 : Hid (∀ j, wS.heap.size ≤ j → w9.heap[j]? = w8.heap[j]?) := Lib.hid fun j hj => by rw [hw9]; exact Below.heap_setCell _ ⟨wr.heap.size, 4, none⟩ _ _ (by show j ≠ wr.heap.size; omega)
      have HW9 := Lib.hid hw9
      have HB9 := Lib.hid hb9
      have HY9 := Lib.hid ((hb9.block (w.heap.size + 1) (by omega)).trans HY.out)
      have hz9 := (hb9.block ob (by omega)).trans HZ.out
      have HZ9 := Lib.hid hz9
      clear hown8' hb8 hsb8 hw9 hb9
      go_upto_region 9 with fail
      rw [← HW9.out]
      clear s4 y4
      have v0 : w9.cell? ⟨wr.heap.size, 0, none⟩ = some (.string s.code) := by simp [World.cell?, hsb9]
      have v1 : w9.cell? ⟨wr.heap.size, 1, none⟩ = some (.int .i64 s.wide) := by simp [World.cell?, hsb9]
      have v2 : w9.cell? ⟨wr.heap.size, 2, none⟩ = some (.int .i64 s.high) := by simp [World.cell?, hsb9]
      have v3 : w9.cell? ⟨wr.heap.size, 3, none⟩ = some (.bool s.even) := by simp [World.cell?, hsb9]
      have v4 : w9.cell? ⟨wr.heap.size, 4, none⟩ = some (.slice A8 T.length c8) := by simp [World.cell?, hsb9]
      have c1 : w9.cell? ⟨ob, 1, none⟩ = some (.slice Av k cv) := by
        have := hz9
        rw [htk] at this
        simp [World.cell?, this]
      have HO9 : Hid (OwnG KSign 67 (w9.alloc (.cells #[.string s.code, .int .i64 s.wide, .int .i64 s.high, .bool s.even, .slice A8 T.length c8] 67)) (ob + 1) (.slice Av k cv) ((l.signs.take k).map Sg.tidyS)) := Lib.hid (by
        have := HOK.out.kept (HB9.out.trans ((Below.refl _ _).alloc (by omega) (.cells #[.string s.code, .int .i64 s.wide, .int .i64 s.high, .bool s.even, .slice A8 T.length c8] 67)))
        rwa [htk] at this)
      clear hsb9 hz9
      obtain ⟨cells, hown3, hgr3⟩ := HO9.out
      rw [htk] at hown3
      have HGR := Lib.hid hgr3
      have HOS := Lib.hid hown3
      have HRD := Lib.hid (rd_one_sign w9 (s.code, s.wide, s.high, s.even, (A8, T.length, c8)))
      have hk1 : k + 1 ≤ maxLen := by simp only [maxLen]; omega
      have hk2 : (k + 1) * 64 ≤ 140737488355328 := by omega
      have hbase : ob + 1 ≤ (w9.alloc (.cells #[.string s.code, .int .i64 s.wide, .int .i64 s.high, .bool s.even, .slice A8 T.length c8] 67)).heap.size := by simp; omega
      clear hgr3 hown3
      go_wp2_with (at_builtin; go_must (refine wpList_append_rd (enc := encS) rfl (.tmp 29) (.tmp 31) _ rfl (ob + 1) 67 i1 _ 5 64 len_S one_S Tryz.underlying22 hi1 hz1 hs1' hb1' rfl (by decide) (.slice Av k cv) k cells rfl HOS.out _ (.slice (some ⟨w9.heap.size, 0, none⟩) 1 1) [(s.code, s.wide, s.high, s.even, (A8, T.length, c8))] rfl HRD.out hk1 hk2 hbase ?_))
      intro v5 w5 hown5 hg5 hat5
      obtain ⟨A5, c5, hv5⟩ := own_form hown5
      have hv5' : v5 = .slice A5 (k + 1) c5 := hv5
      clear hv5
      subst hv5'
      have hsz5 := hg5.size
      have hbl5 : ∀ j, j < ob + 1 → w5.heap[j]? = w9.heap[j]? := fun j hj => (hg5.block _ (by simp; omega) (fun e => by have := (HOS.out.lt _ e.symm).1; omega)).trans (((Below.refl w9.heap.size w9).alloc (Nat.le_refl _) _).block j (by omega))
      have hy5 := (hbl5 _ (by omega)).trans HY9.out
      have hz5 := (hbl5 _ (by omega)).trans HZ9.out
      have hb5 : Below w.heap.size w w5 := ((HBW.out.trans (HB9.out.mono (by omega))).alloc (by omega) _).grown hg5 (by simp; omega) (fun q hq => by have := (HOS.out.lt q hq).1; omega)
      have HON : Hid (OwnG KSign 67 w5 (ob + 1) (.slice A5 (k + 1) c5) ((l.signs.take (k + 1)).map Sg.tidyS)) := Lib.hid (by
        rw [List.take_add_one, HS.out, Option.toList_some, List.map_append, List.map_singleton]
        refine OwnG.snoc HGR.out (cs := encS (s.code, s.wide, s.high, s.even, (A8, T.length, c8))) ⟨.slice A8 T.length c8, rfl, ?_⟩ (by rw [htk]; exact hown5) hg5 ?_
        · show RdX _ _ 4 encValue _ (Sg.tidiedV s.values)
          rw [← HT.out]
          refine HRX.out.keep fun j hj => ⟨⟨by simp; omega, fun e => ?_, by omega⟩, ?_⟩
          · have := (HOK.out.lt j (by rw [htk]; exact e)).2
            omega
          · exact (((Below.refl w9.heap.size w9).alloc (Nat.le_refl _) _).block j (by omega)).trans (HK9.out j (by omega))
        · rcases hat5 with h | h
          · exact .inl h
          · exact .inr ⟨_, h, by simp⟩)
      have c1 : w5.cell? ⟨ob, 1, none⟩ = some (.slice Av k cv) := by
        have := hz5
        rw [htk] at this
        simp [World.cell?, this]
      have z1 : w5.frozen? ⟨ob, 1, none⟩ = false := by simp [World.frozen?, hz5]
      obtain ⟨w6, hw6⟩ : ∃ w6, w6 = w5.setCell ⟨ob, 1, none⟩ (.slice A5 (k + 1) c5) := ⟨_, rfl⟩
      have HZ6 : Hid (w6.heap[ob]? = some (.cells #[.int .i64 l.periods, .slice A5 (k + 1) c5] 24 (0, 0))) := Lib.hid (by rw [hw6]; exact gset hz5 _)
      have HY6 : Hid (w6.heap[w.heap.size + 1]? = some (.cells #[.int .i64 0, .slice none 0 0] 24 (0, 0))) := Lib.hid (by rw [hw6, Below.heap_setCell _ ⟨ob, 1, none⟩ _ _ (by show w.heap.size + 1 ≠ ob; omega)]; exact hy5)
      have HB6 : Hid (Below w.heap.size w w6) := Lib.hid (by rw [hw6]; exact hb5.setCell (by show w.heap.size ≤ ob; omega) _)
      have HO6 : Hid (OwnG KSign 67 w6 (ob + 1) (.slice A5 (k + 1) c5) ((l.signs.take (k + 1)).map Sg.tidyS)) := Lib.hid (by rw [hw6]; exact HON.out.aside (grown_set _ _ _) (by intro q hq; cases hq; show ob < _; omega))
      have HW6 := Lib.hid hw6
      clear hown5 hg5 hat5 hbl5 hy5 hz5 hb5 hw6 v0 v1 v2 v3 v4 hsz5
      go_upto_region 10 with fail
      rw [← HW6.out]
      clear c1 z1
      go_wp2_with fail
      go_roundg (l.signs.length - (k + 1))
      case measure => omega
      case rel => exact ⟨k + 1, .slice A5 (k + 1) c5, by omega, rfl, by go_num, HB6.out, HY6.out, HZ6.out, HO6.out⟩
    · have hkl : k = l.signs.length := by omega
      have hkJ : ¬ (k : Int) < (l.signs.length : Int) := by omega
      have HRG : Hid (RdG KSign wr (fun b => b < wr.heap.size ∧ ob + 1 ≤ b) (.slice Av ((l.signs.take k).map Sg.tidyS).length cv) (l.signs.map Sg.tidyS)) := Lib.hid (by
        have := HOK.out.rd
        rwa [show l.signs.take k = l.signs by rw [hkl]; exact List.take_length] at this ⊢)
      have hz := HZ.out
      have hy := HY.out
      have m0 : wr.cell? ⟨ob, 0, none⟩ = some (.int .i64 l.periods) := by simp [World.cell?, hz]
      have m1 : wr.cell? ⟨ob, 1, none⟩ = some (.slice Av ((l.signs.take k).map Sg.tidyS).length cv) := by simp [World.cell?, hz]
      have n0 : wr.cell? ⟨w.heap.size + 1, 0, none⟩ = some (.int .i64 0) := by simp [World.cell?, hy]
      have n1 : wr.cell? ⟨w.heap.size + 1, 1, none⟩ = some (.slice none 0 0) := by simp [World.cell?, hy]
      have y0 : wr.frozen? ⟨w.heap.size + 1, 0, none⟩ = false := by simp [World.frozen?, hy]
      have y1 : wr.frozen? ⟨w.heap.size + 1, 1, none⟩ = false := by simp [World.frozen?, hy]
      clear hz hy hkl
      generalize ((l.signs.take k).map Sg.tidyS).length = nk at m1 HRG htk
      clear htk
      go_wp2_with fail
      refine bodyPost_ret (v := .tuple #[.agg #[.int .i64 l.periods, .slice Av nk cv], .int .i64 0]) (by simp [results, Tryz.results42, go_sem, n0, n1]) rfl ?_
      refine ⟨_, rfl, ?_, (HBW.out.setCell (by show w.heap.size ≤ w.heap.size + 1; omega) _).setCell (by show w.heap.size ≤ w.heap.size + 1; omega) _⟩
      rw [HN.out]
      refine ⟨⟨_, rfl, HRG.out.keep fun j hj => ⟨by simp [World.setCell]; omega, ?_⟩⟩, fun s hs => ?_⟩
      · rw [Below.heap_setCell _ ⟨w.heap.size + 1, 1, none⟩ _ _ (by show j ≠ w.heap.size + 1; omega), Below.heap_setCell _ ⟨w.heap.size + 1, 0, none⟩ _ _ (by show j ≠ w.heap.size + 1; omega)]
      · obtain ⟨u, hu, rfl⟩ := List.mem_map.1 hs
        exact Sg.tidyS_fits (HFS.out u hu)
end Go.Proofs.YtkmimjngmfdpmaaGreatDoor
