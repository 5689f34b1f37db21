/- ostraconref01.put of an empty list, tidied. Made by gen_sgtidied.py. Names of the signs of a valid list: plain law. Tidy and Restrict keep what a sign says in a period: plain law. signs.Tidy. Made by gen_gtidy.py. -/
import Derived.Test.YtkmimjngmfdpmaaGreatDoorMoSgSort
import Derived.Test.YtkmimjngmfdpmaaGreatDoorMoSgTidyL
import Derived.Test.YtkmimjngmfdpmaaGreatDoorMoBegin
import Derived.Lib.ItoaLen
import Derived.Test.YtkmimjngmfdpmaaGreatDoorMoSgTidyPlain
import Derived.Test.YtkmimjngmfdpmaaGreatDoorMoSgCopy
namespace Go.Proofs.YtkmimjngmfdpmaaGreatDoor
open Go Go.RowKit

set_option maxRecDepth 100000 in
set_option maxHeartbeats 4000000 in
theorem r1putN_any (x : Sg.Value) (w : World) : Calls Tryz.prog 123 #[.slice none 0 0, .agg #[.int .i64 x.kind, .string x.text, .int .i64 x.lo, .int .i64 x.hi]] w (RetVals [x] w) := by
  obtain ⟨kv, sv, lv, hv⟩ := x
  obtain ⟨i1, hi1, hz1, hs1', hb1'⟩ := info_parts info_Value
  obtain ⟨W1, hW1⟩ : ∃ W1, W1 = w.alloc (.cells #[.int .i64 kv, .string sv, .int .i64 lv, .int .i64 hv] 60) := ⟨_, rfl⟩
  have hb1 : Below w.heap.size w W1 := by rw [hW1]; exact (Below.refl _ _).alloc (Nat.le_refl _) _
  have hX : W1.heap[w.heap.size]? = some (.cells #[.int .i64 kv, .string sv, .int .i64 lv, .int .i64 hv] 60 (0, 0)) := by rw [hW1]; exact heap_alloc_new _ _
  have hs1 : w.heap.size < W1.heap.size := (Array.getElem?_eq_some_iff.1 hX).1
  have CX : Hid (∀ W, Below W1.heap.size W1 W → W.cell? ⟨w.heap.size, 0, none⟩ = some (.int .i64 kv) ∧ W.cell? ⟨w.heap.size, 1, none⟩ = some (.string sv) ∧ W.cell? ⟨w.heap.size, 2, none⟩ = some (.int .i64 lv) ∧ W.cell? ⟨w.heap.size, 3, none⟩ = some (.int .i64 hv)) := Lib.hid fun W hW => by
    have p := (hW.block _ hs1).trans hX
    exact ⟨by simp [World.cell?, p], by simp [World.cell?, p], by simp [World.cell?, p], by simp [World.cell?, p]⟩
  have HB1 := Lib.hid hb1
  have HW1 := Lib.hid hW1
  clear hW1 hb1 hX
  go_enter Tryz.func123, Tryz.ntmps123
  go_upto_region 1 with fail
  rw [← HW1.out]
  go_wp2_with fail
  refine wp_loop_rounds 1 ?_
  rw [rounds_succ]
  go_upto_region 3 with fail
  refine wp_region_inv2T (fun T0 => PuaI T0 W1 (.slice none 0 0) 0 w.heap.size) (by kernel_rfl) (by kernel_rfl) ?g0a ?gstepa ?genda
  case g0a =>
    have hno : ∀ j, ¬ dn (Array.replicate 12 false) j := by
      intro j; unfold dn; by_cases hj : j < 12 <;> simp [Array.getD, hj]
    have na : ∀ {j : Nat} {Z : Prop}, dn (Array.replicate 12 false) j → Z := fun hj => absurd hj (hno _)
    exact ⟨_, rfl, { bel := (Below.refl _ _).drew, siz := rfl, kp := fun _ _ => rfl, k0 := rfl, k3 := rfl, k6 := rfl, p0 := na, p1 := na, p2 := na, p3 := na, p4 := na, p5 := na, p6 := na, p7 := na, p8 := na, p9 := na, p10 := na, p11 := na }⟩
  case gstepa =>
    intro T0 d a wc i hd hI hi
    obtain ⟨hlt, hnd, hpre⟩ := mem_ready hi
    have hd' : d.size = 12 := hd
    have hin : i < 12 := hlt
    clear hi hd hlt
    obtain ⟨t, rfl, h⟩ := hI
    have hcs : i = 0 ∨ i = 1 ∨ i = 2 ∨ i = 3 ∨ i = 4 ∨ i = 5 ∨ i = 6 ∨ i = 7 ∨ i = 8 ∨ i = 9 ∨ i = 10 ∨ i = 11 := by omega
    rcases hcs with rfl | rfl | rfl | rfl | rfl | rfl | rfl | rfl | rfl | rfl | rfl | rfl
    · have hi : 0 < d.size := by omega
      have q6 := h.k6
      refine wpOp_plain rfl rfl ?_
      go_simp
      exact ⟨_, rfl, { bel := h.bel, siz := (by simpa using h.siz), kp := rk h.kp, k0 := rs h.k0, k3 := rs h.k3, k6 := rs h.k6, p0 := fun _ => set_same (by have := h.siz; omega), p1 := rp hi h.p1, p2 := rp hi h.p2, p3 := rp hi h.p3, p4 := rp hi h.p4, p5 := rp hi h.p5, p6 := rp hi h.p6, p7 := rp hi h.p7, p8 := rp hi h.p8, p9 := rp hi h.p9, p10 := rp hi h.p10, p11 := rp hi h.p11 }⟩
    · have hi : 1 < d.size := by omega
      have q0 := h.k0
      refine wpOp_plain rfl rfl ?_
      go_simp
      exact ⟨_, rfl, { bel := h.bel, siz := (by simpa using h.siz), kp := rk h.kp, k0 := rs h.k0, k3 := rs h.k3, k6 := rs h.k6, p0 := rp hi h.p0, p1 := fun _ => set_same (by have := h.siz; omega), p2 := rp hi h.p2, p3 := rp hi h.p3, p4 := rp hi h.p4, p5 := rp hi h.p5, p6 := rp hi h.p6, p7 := rp hi h.p7, p8 := rp hi h.p8, p9 := rp hi h.p9, p10 := rp hi h.p10, p11 := rp hi h.p11 }⟩
    · have hi : 2 < d.size := by omega
      have e1 := h.p1 (hpre _ rfl ⟨1, .data⟩ (by simp) rfl)
      refine wpOp_plain rfl rfl ?_
      go_simp
      exact ⟨_, rfl, { bel := h.bel, siz := (by simpa using h.siz), kp := rk h.kp, k0 := rs h.k0, k3 := rs h.k3, k6 := rs h.k6, p0 := rp hi h.p0, p1 := rp hi h.p1, p2 := fun _ => set_same (by have := h.siz; omega), p3 := rp hi h.p3, p4 := rp hi h.p4, p5 := rp hi h.p5, p6 := rp hi h.p6, p7 := rp hi h.p7, p8 := rp hi h.p8, p9 := rp hi h.p9, p10 := rp hi h.p10, p11 := rp hi h.p11 }⟩
    · have hi : 3 < d.size := by omega
      have e0 := h.p0 (hpre _ rfl ⟨0, .data⟩ (by simp) rfl)
      have e2 := h.p2 (hpre _ rfl ⟨2, .data⟩ (by simp) rfl)
      refine wpOp_plain rfl rfl ?_
      go_simp
      exact ⟨_, rfl, { bel := h.bel, siz := (by simpa using h.siz), kp := rk h.kp, k0 := rs h.k0, k3 := rs h.k3, k6 := rs h.k6, p0 := rp hi h.p0, p1 := rp hi h.p1, p2 := rp hi h.p2, p3 := fun _ => set_same (by have := h.siz; omega), p4 := rp hi h.p4, p5 := rp hi h.p5, p6 := rp hi h.p6, p7 := rp hi h.p7, p8 := rp hi h.p8, p9 := rp hi h.p9, p10 := rp hi h.p10, p11 := rp hi h.p11 }⟩
    · have hi : 4 < d.size := by omega
      have e3 := h.p3 (hpre _ rfl ⟨3, .data⟩ (by simp) rfl)
      refine wpOp_plain rfl rfl ?_
      go_simp
      exact ⟨_, rfl, { bel := h.bel, siz := (by simpa using h.siz), kp := rk h.kp, k0 := rs h.k0, k3 := rs h.k3, k6 := rs h.k6, p0 := rp hi h.p0, p1 := rp hi h.p1, p2 := rp hi h.p2, p3 := rp hi h.p3, p4 := fun _ => set_same (by have := h.siz; omega), p5 := rp hi h.p5, p6 := rp hi h.p6, p7 := rp hi h.p7, p8 := rp hi h.p8, p9 := rp hi h.p9, p10 := rp hi h.p10, p11 := rp hi h.p11 }⟩
    · have hi : 5 < d.size := by omega
      refine wpOp_idle rfl (unwanted_of (d := 11) rfl rfl (h.p4 (hpre _ rfl ⟨4, .guard⟩ (by simp) rfl)) (by decide)) ?_
      exact ⟨_, rfl, { bel := h.bel, siz := (by simpa using h.siz), kp := rk h.kp, k0 := rs h.k0, k3 := rs h.k3, k6 := rs h.k6, p0 := rp hi h.p0, p1 := rp hi h.p1, p2 := rp hi h.p2, p3 := rp hi h.p3, p4 := rp hi h.p4, p5 := fun _ => set_same (by have := h.siz; show _ < t.size; omega), p6 := rp hi h.p6, p7 := rp hi h.p7, p8 := rp hi h.p8, p9 := rp hi h.p9, p10 := rp hi h.p10, p11 := rp hi h.p11 }⟩
    · have hi : 6 < d.size := by omega
      refine wpOp_idle rfl (unwanted_of (d := 11) rfl rfl (h.p4 (hpre _ rfl ⟨4, .guard⟩ (by simp) rfl)) (by decide)) ?_
      exact ⟨_, rfl, { bel := h.bel, siz := (by simpa using h.siz), kp := rk h.kp, k0 := rs h.k0, k3 := rs h.k3, k6 := rs h.k6, p0 := rp hi h.p0, p1 := rp hi h.p1, p2 := rp hi h.p2, p3 := rp hi h.p3, p4 := rp hi h.p4, p5 := rp hi h.p5, p6 := fun _ => set_same (by have := h.siz; show _ < t.size; omega), p7 := rp hi h.p7, p8 := rp hi h.p8, p9 := rp hi h.p9, p10 := rp hi h.p10, p11 := rp hi h.p11 }⟩
    · have hi : 7 < d.size := by omega
      refine wpOp_idle rfl (unwanted_of (d := 11) rfl rfl (h.p4 (hpre _ rfl ⟨4, .guard⟩ (by simp) rfl)) (by decide)) ?_
      exact ⟨_, rfl, { bel := h.bel, siz := (by simpa using h.siz), kp := rk h.kp, k0 := rs h.k0, k3 := rs h.k3, k6 := rs h.k6, p0 := rp hi h.p0, p1 := rp hi h.p1, p2 := rp hi h.p2, p3 := rp hi h.p3, p4 := rp hi h.p4, p5 := rp hi h.p5, p6 := rp hi h.p6, p7 := fun _ => set_same (by have := h.siz; show _ < t.size; omega), p8 := rp hi h.p8, p9 := rp hi h.p9, p10 := rp hi h.p10, p11 := rp hi h.p11 }⟩
    · have hi : 8 < d.size := by omega
      refine wpOp_idle rfl (unwanted_of (d := 11) rfl rfl (h.p4 (hpre _ rfl ⟨4, .guard⟩ (by simp) rfl)) (by decide)) ?_
      exact ⟨_, rfl, { bel := h.bel, siz := (by simpa using h.siz), kp := rk h.kp, k0 := rs h.k0, k3 := rs h.k3, k6 := rs h.k6, p0 := rp hi h.p0, p1 := rp hi h.p1, p2 := rp hi h.p2, p3 := rp hi h.p3, p4 := rp hi h.p4, p5 := rp hi h.p5, p6 := rp hi h.p6, p7 := rp hi h.p7, p8 := fun _ => set_same (by have := h.siz; show _ < t.size; omega), p9 := rp hi h.p9, p10 := rp hi h.p10, p11 := rp hi h.p11 }⟩
    · have hi : 9 < d.size := by omega
      refine wpOp_idle rfl (unwanted_of (d := 11) rfl rfl (h.p4 (hpre _ rfl ⟨4, .guard⟩ (by simp) rfl)) (by decide)) ?_
      exact ⟨_, rfl, { bel := h.bel, siz := (by simpa using h.siz), kp := rk h.kp, k0 := rs h.k0, k3 := rs h.k3, k6 := rs h.k6, p0 := rp hi h.p0, p1 := rp hi h.p1, p2 := rp hi h.p2, p3 := rp hi h.p3, p4 := rp hi h.p4, p5 := rp hi h.p5, p6 := rp hi h.p6, p7 := rp hi h.p7, p8 := rp hi h.p8, p9 := fun _ => set_same (by have := h.siz; show _ < t.size; omega), p10 := rp hi h.p10, p11 := rp hi h.p11 }⟩
    · have hi : 10 < d.size := by omega
      refine wpOp_idle rfl (unwanted_of (d := 11) rfl rfl (h.p4 (hpre _ rfl ⟨4, .guard⟩ (by simp) rfl)) (by decide)) ?_
      exact ⟨_, rfl, { bel := h.bel, siz := (by simpa using h.siz), kp := rk h.kp, k0 := rs h.k0, k3 := rs h.k3, k6 := rs h.k6, p0 := rp hi h.p0, p1 := rp hi h.p1, p2 := rp hi h.p2, p3 := rp hi h.p3, p4 := rp hi h.p4, p5 := rp hi h.p5, p6 := rp hi h.p6, p7 := rp hi h.p7, p8 := rp hi h.p8, p9 := rp hi h.p9, p10 := fun _ => set_same (by have := h.siz; show _ < t.size; omega), p11 := rp hi h.p11 }⟩
    · have hi : 11 < d.size := by omega
      have e4 := h.p4 (hpre _ rfl ⟨4, .data⟩ (by simp) rfl)
      have e10 := h.p10 (hpre _ rfl ⟨10, .data⟩ (by simp) rfl)
      refine wpOp_plain rfl rfl ?_
      go_simp
      exact ⟨_, rfl, { bel := h.bel, siz := (by simpa using h.siz), kp := rk h.kp, k0 := rs h.k0, k3 := rs h.k3, k6 := rs h.k6, p0 := rp hi h.p0, p1 := rp hi h.p1, p2 := rp hi h.p2, p3 := rp hi h.p3, p4 := rp hi h.p4, p5 := rp hi h.p5, p6 := rp hi h.p6, p7 := rp hi h.p7, p8 := rp hi h.p8, p9 := rp hi h.p9, p10 := rp hi h.p10, p11 := fun _ => set_same (by have := h.siz; omega) }⟩
  case genda =>
    intro d a wc hd hI hall
    obtain ⟨t, rfl, h⟩ := hI
    have hdn : ∀ j, j < 12 → dn d j := fun j hj => dn_all hd hall hj
    have hd : ∀ j, (_ : j < 12 := by decide) → dn d j := fun j hj => hdn j hj
    have hfe := frame_eq [(7, _), (8, _), (9, _), (10, _), (11, _), (12, _), (13, _), (14, _), (15, _), (16, _), (17, _), (18, _)] (h.siz.trans rfl) h.kp rfl ⟨h.p0 (hd 0), h.p1 (hd 1), h.p2 (hd 2), h.p3 (hd 3), h.p4 (hd 4), h.p5 (hd 5), h.p6 (hd 6), h.p7 (hd 7), h.p8 (hd 8), h.p9 (hd 9), h.p10 (hd 10), h.p11 (hd 11), trivial⟩
    simp only [List.foldl_cons, List.foldl_nil, List.setIfInBounds_toArray, List.set_cons_succ, List.set_cons_zero] at hfe
    have hbc := h.bel
    subst hfe
    clear h hdn hd hall
    have HBX := Lib.hid hbc
    obtain ⟨n0, n1, n2, n3⟩ := CX.out wc hbc
    clear hbc
    go_upto_region 6 with fail
    go_quiet (fail)
    generalize hwd : World.drewN _ _ = wd
    have HBD : Hid (Below W1.heap.size W1 wd) := Lib.hid (by rw [← hwd]; exact below_drewN HBX.out _)
    clear hwd n0 n1 n2 n3
    obtain ⟨n0, n1, n2, n3⟩ := CX.out wd HBD.out
    have HOS : Hid ((wd.alloc (.cells #[.int .i64 kv, .string sv, .int .i64 lv, .int .i64 hv] 60)).ownsRow W1.heap.size 60 4 (.slice none 0 0) 0 []) := Lib.hid (World.ownsRow_nil _ _ _ _)
    have HRD := Lib.hid (rd_one_value wd ⟨kv, sv, lv, hv⟩)
    have hk1 : 0 + 1 ≤ maxLen := by simp only [maxLen]; omega
    have hk2 : (0 + 1) * 40 ≤ 140737488355328 := by omega
    have hbase : W1.heap.size ≤ (wd.alloc (.cells #[.int .i64 kv, .string sv, .int .i64 lv, .int .i64 hv] 60)).heap.size := by have := HBD.out.size; simp; omega
    go_wp2_with (at_builtin; go_must (refine wpList_append_rd (enc := encValue) rfl (.tmp 40) (.tmp 42) _ rfl W1.heap.size 60 i1 _ 4 40 len_value one_value Tryz.underlying47 hi1 hz1 hs1' hb1' rfl (by decide) (.slice none 0 0) 0 [] rfl HOS.out _ (.slice (some ⟨wd.heap.size, 0, none⟩) 1 1) [(⟨kv, sv, lv, hv⟩ : Sg.Value)] rfl HRD.out hk1 hk2 hbase ?_))
    intro v8 w8 hown8 hg8 hat8
    have HB8 : Hid (Below W1.heap.size W1 w8) := Lib.hid ((HBD.out.alloc HBD.out.size _).grown hg8 hbase (fun q hq => (HOS.out.lt q hq).1))
    have HO8 : Hid (w8.ownsRow W1.heap.size 60 4 v8 1 ([(⟨kv, sv, lv, hv⟩ : Sg.Value)].flatMap encValue)) := Lib.hid (by simpa using hown8)
    clear hown8 hg8 hat8 n0 n1 n2 n3
    obtain ⟨A8, c8, hv8⟩ := own_formN HO8.out
    subst hv8
    have HRD : Hid (RdS w8 w.heap.size 4 encValue (.slice none 0 0) ([] : List Sg.Value)) := Lib.hid (rds_void (by omega))
    have hk1 : 1 + ([] : List Sg.Value).length ≤ maxLen := by simp only [maxLen, List.length_nil]; omega
    have hk2 : (1 + ([] : List Sg.Value).length) * 40 ≤ 140737488355328 := by simp only [List.length_nil]; omega
    have hbase : W1.heap.size ≤ w8.heap.size := HB8.out.size
    go_wp2_with (at_builtin; go_must (refine wpList_append_rd (enc := encValue) rfl (.tmp 44) (.tmp 47) _ rfl W1.heap.size 60 i1 _ 4 40 len_value one_value Tryz.underlying47 hi1 hz1 hs1' hb1' rfl (by decide) (.slice A8 1 c8) 1 ([(⟨kv, sv, lv, hv⟩ : Sg.Value)].flatMap encValue) rfl HO8.out w.heap.size (.slice none 0 0) ([] : List Sg.Value) rfl HRD.out hk1 hk2 hbase ?_))
    intro v9 w9 hown8 hg8 hat8
    have HB9 : Hid (Below W1.heap.size W1 w9) := Lib.hid (HB8.out.grown hg8 hbase (fun q hq => (HO8.out.lt q hq).1))
    have HO9 := Lib.hid hown8
    clear hown8 hg8 hat8
    go_wp2_with fail
    go_ret
    exact ⟨_, rfl, (own_appQ HO9.out (by simp) (by simp)).mono (Nat.le_of_lt hs1), HB1.out.trans (HB9.out.mono (by omega))⟩
/-- a list under way: nothing, or a row that reads *-/
def RdA (w : World) (v : Value) (l : List Sg.Value) : Prop := (l = [] ∧ v = .slice none 0 0) ∨ (l ≠ [] ∧ RdS w w.heap.size 4 encValue v l)
theorem Sg.putV_ne (x : Sg.Value) (l : List Sg.Value) : Sg.putV x l ≠ [] := by
  cases l with
  | nil => simp [Sg.putV]
  | cons a l =>
    unfold Sg.putV
    split
    · simp
    · split <;> simp
theorem Sg.putV_len (x : Sg.Value) : ∀ l : List Sg.Value, (Sg.putV x l).length ≤ l.length + 1
  | [] => Nat.le_refl _
  | a :: l => by
    unfold Sg.putV
    split
    · have := Sg.putV_len x l
      simp only [List.length_cons]; omega
    · split <;> simp
def RetA (l : List Sg.Value) (w : World) (e : Ending) (w' : World) : Prop := ∃ v, e = .returned v ∧ RdA w' v l ∧ Below w.heap.size w w'
theorem r1putA_any (vl : Value) (l : List Sg.Value) (x : Sg.Value) (w : World) (hr : RdA w vl l) (hlen : l.length ≤ 100000) :
    Calls Tryz.prog 123 #[vl, .agg #[.int .i64 x.kind, .string x.text, .int .i64 x.lo, .int .i64 x.hi]] w (RetA (Sg.putV x l) w) := by
  rcases hr with ⟨rfl, rfl⟩ | ⟨h, hr⟩
  · refine (r1putN_any x w).mono ?_
    rintro e w' ⟨v, rfl, hown, hb⟩
    exact ⟨v, rfl, .inr ⟨Sg.putV_ne _ _, rds_of_own len_value hown⟩, hb⟩
  · refine (r1put_any vl l x w hr h hlen).mono ?_
    rintro e w' ⟨v, rfl, hown, hb⟩
    exact ⟨v, rfl, .inr ⟨Sg.putV_ne _ _, rds_of_own len_value hown⟩, hb⟩
theorem RdA.on {w w' : World} {v : Value} {l : List Sg.Value} (h : RdA w v l) (hb : Below w.heap.size w w') : RdA w' v l := by
  rcases h with h | ⟨h, hr⟩
  · exact .inl h
  · exact .inr ⟨h, (hr.below hb).more hb.size⟩
theorem RdA.rds {w : World} {v : Value} {l : List Sg.Value} (h : RdA w v l) : RdS w w.heap.size 4 encValue v l := by
  rcases h with ⟨rfl, rfl⟩ | ⟨h, hr⟩
  · exact rds_void (by omega)
  · exact hr
/-- the points that have been put -/
def Sg.foldP (X : List Sg.Value) : List Sg.Value := X.foldl (fun acc x => Sg.putV x acc) []
theorem Sg.foldP_snoc (X : List Sg.Value) (x : Sg.Value) : Sg.foldP (X ++ [x]) = Sg.putV x (Sg.foldP X) := by unfold Sg.foldP; rw [List.foldl_append]; rfl
theorem Sg.foldP_fine {X : List Sg.Value} (h : ∀ x ∈ X, 0 ≤ x.hi ∧ x.hi ≤ 100) : ∀ x ∈ Sg.foldP X, 0 ≤ x.hi ∧ x.hi ≤ 100 := by
  revert h
  refine Lx.list_rev_ind (P := fun X => (∀ x ∈ X, 0 ≤ x.hi ∧ x.hi ≤ 100) → ∀ x ∈ Sg.foldP X, 0 ≤ x.hi ∧ x.hi ≤ 100) (fun _ x hx => by cases hx) (fun l a ih h x hx => ?_) X
  rw [Sg.foldP_snoc, Sg.putV_mem] at hx
  rcases hx with rfl | hx
  · exact h _ (by simp)
  · exact ih (fun y hy => h y (by simp [hy])) x hx
theorem Sg.pts_next {v : Sg.Value} {j : Nat} (h : j < (v.hi + 1 - v.lo).toNat) : (Sg.ptsOf v).take (j + 1) = (Sg.ptsOf v).take j ++ [⟨v.kind, v.text, v.lo + (j : Int), v.lo + (j : Int)⟩] := by
  have hlen : (Sg.ptsOf v).length = (v.hi + 1 - v.lo).toNat := by unfold Sg.ptsOf; simp
  rw [List.take_succ_eq_append_getElem (by omega)]
  congr 2
  unfold Sg.ptsOf
  simp
theorem Sg.pts_all (v : Sg.Value) : (Sg.ptsOf v).take (v.hi + 1 - v.lo).toNat = Sg.ptsOf v := List.take_of_length_le (by unfold Sg.ptsOf; simp)
/-- one point more on joined points -/
def Sg.joinS' (q : List Sg.Value) (v : Sg.Value) : List Sg.Value := match q.getLast? with
  | some u => if Sg.neq u v ∧ u.hi + 1 = v.lo then q.dropLast ++ [⟨u.kind, u.text, u.lo, v.hi⟩] else q ++ [v]
  | none => [v]
theorem Sg.joinS_cons {u : Sg.Value} {q : List Sg.Value} (v : Sg.Value) (h : q ≠ []) : Sg.joinS' (u :: q) v = u :: Sg.joinS' q v := by
  unfold Sg.joinS'
  have e : (u :: q).getLast? = q.getLast? := by
    cases q with
    | nil => exact absurd rfl h
    | cons a r => rw [List.getLast?_cons_cons]
  rw [e]
  cases hq : q.getLast? with
  | none => rw [List.getLast?_eq_none_iff] at hq; exact absurd hq h
  | some x =>
    simp only
    split
    · rw [List.dropLast_cons_of_ne_nil h, List.cons_append]
    · rfl
theorem Sg.joinR_ne (u : Sg.Value) (r : List Sg.Value) : Sg.joinR u r ≠ [] := by
  induction r generalizing u with
  | nil => simp [Sg.joinR]
  | cons v r ih =>
    unfold Sg.joinR
    split
    · exact ih _
    · simp
theorem Sg.joinR_snoc : ∀ (r : List Sg.Value) (u v : Sg.Value), Sg.joinR u (r ++ [v]) = Sg.joinS' (Sg.joinR u r) v
  | [], u, v => by
    simp only [List.nil_append, Sg.joinR, Sg.joinS', List.getLast?_singleton]
    split <;> rfl
  | x :: r, u, v => by
    rw [List.cons_append, Sg.joinR, Sg.joinR]
    split
    · exact Sg.joinR_snoc r _ v
    · rw [Sg.joinR_snoc r x v, Sg.joinS_cons v (Sg.joinR_ne x r)]
theorem Sg.joinV_next {S : List Sg.Value} {k : Nat} {y : Sg.Value} (h : S[k]? = some y) : Sg.joinV (S.take (k + 1)) = Sg.joinS' (Sg.joinV (S.take k)) y := by
  rw [List.take_add_one, h]
  show Sg.joinV (S.take k ++ [y]) = _
  cases S.take k with
  | nil => rfl
  | cons u r => exact Sg.joinR_snoc r u y
theorem Sg.joinS_app {q : List Sg.Value} {u v : Sg.Value} (h : ¬ (Sg.neq u v ∧ u.hi + 1 = v.lo)) : Sg.joinS' (q ++ [u]) v = q ++ [u] ++ [v] := by
  unfold Sg.joinS'
  rw [List.getLast?_concat]
  simp only
  rw [if_neg h]
theorem Sg.joinS_join {q : List Sg.Value} {u v : Sg.Value} (h : Sg.neq u v ∧ u.hi + 1 = v.lo) : Sg.joinS' (q ++ [u]) v = q ++ [⟨u.kind, u.text, u.lo, v.hi⟩] := by
  unfold Sg.joinS'
  rw [List.getLast?_concat]
  simp only
  rw [if_pos h, List.dropLast_concat]
theorem Sg.joinS_fine {q : List Sg.Value} {v : Sg.Value} (hq : (∀ x ∈ q, 0 ≤ x.hi ∧ x.hi ≤ 100)) (hv : 0 ≤ v.hi ∧ v.hi ≤ 100) : (∀ x ∈ Sg.joinS' q v, 0 ≤ x.hi ∧ x.hi ≤ 100) ∧ (Sg.joinS' q v).length ≤ q.length + 1 := by
  rcases Lx.list_rev_ind (P := fun q => q = [] ∨ ∃ r u, q = r ++ [u]) (.inl rfl) (fun l a _ => .inr ⟨l, a, rfl⟩) q with rfl | ⟨r, u, rfl⟩
  · refine ⟨fun x hx => ?_, Nat.le_refl _⟩
    have : x = v := by simpa [Sg.joinS'] using hx
    subst this; exact hv
  · by_cases h : Sg.neq u v ∧ u.hi + 1 = v.lo
    · rw [Sg.joinS_join h]
      refine ⟨fun x hx => ?_, by simp⟩
      rw [List.mem_append, List.mem_singleton] at hx
      rcases hx with hx | rfl
      · exact hq x (by simp [hx])
      · exact hv
    · rw [Sg.joinS_app h]
      refine ⟨fun x hx => ?_, by simp⟩
      rw [List.mem_append, List.mem_singleton] at hx
      rcases hx with hx | rfl
      · exact hq x hx
      · exact hv
theorem Sg.join_fine {S : List Sg.Value} (h : ∀ x ∈ S, 0 ≤ x.hi ∧ x.hi ≤ 100) : ∀ k, (∀ x ∈ Sg.joinV (S.take k), 0 ≤ x.hi ∧ x.hi ≤ 100) ∧ (Sg.joinV (S.take k)).length ≤ k := by
  intro k
  induction k with
  | zero => exact ⟨fun x hx => (by simp [Sg.joinV] at hx), Nat.le_refl _⟩
  | succ k ih =>
    by_cases hk : k < S.length
    · have hy : S[k]? = some S[k] := List.getElem?_eq_getElem hk
      rw [Sg.joinV_next hy]
      have := Sg.joinS_fine ih.1 (h S[k] (List.getElem_mem hk))
      exact ⟨this.1, by omega⟩
    · rw [List.take_of_length_le (by omega)]
      rw [List.take_of_length_le (by omega)] at ih
      exact ⟨ih.1, by omega⟩
def Sg.valsS (ss : List Sg.Sign) : List Sg.Value := ss.flatMap (·.values)
set_option maxRecDepth 100000 in
set_option maxHeartbeats 16000000 in
theorem r1tidied_any (v : Value) (ss : List Sg.Sign) (w : World) (hr : RdG KSign w (· < w.heap.size) v ss) (hn : ss.length ≤ 2) (hv : ∀ s ∈ ss, s.values.length ≤ 12 ∧ ∀ x ∈ s.values, 1 ≤ x.lo ∧ x.lo ≤ x.hi ∧ x.hi ≤ 9) :
    Calls Tryz.prog 85 #[v] w (RetVals (Sg.tidiedV (Sg.valsS ss)) w) := by
  obtain ⟨A0, c0, rfl⟩ := hr.form
  have HG := Lib.hid hr
  have HV := Lib.hid hv
  obtain ⟨i1, hi1, hz1, hs1', hb1'⟩ := info_parts info_Value
  clear hr hv
  go_enter Tryz.func85, Tryz.ntmps85
  go_wp2_with fail
  go_loopg [3, 4] ss.length (fun g vv i wr => ∃ (k : Nat) (acc : List Sg.Value), k ≤ ss.length ∧ g = ss.length - k ∧ i = .int .i64 (k : Nat) ∧ Below w.heap.size w wr ∧ RdA wr vv acc ∧ acc = Sg.foldP ((Sg.valsS (ss.take k)).flatMap Sg.ptsOf) ∧ acc.length ≤ 108 * k)
  case atStart => exact ⟨0, [], Nat.zero_le _, rfl, rfl, Below.refl _ _, .inl ⟨rfl, rfl⟩, rfl, Nat.le_refl _⟩
  case round =>
    obtain ⟨k, acc, hk, rfl, rfl, hbel, hra, hacc, hal⟩ := hrel
    have HBR := Lib.hid hbel
    have HRA := Lib.hid hra
    have HAC := Lib.hid hacc
    clear hacc hra
    by_cases hlt : k < ss.length
    · obtain ⟨b, off, rfl, hb, hcell⟩ := HG.out.five (by omega)
      obtain ⟨s, hs⟩ : ∃ s, ss[k]? = some s := ⟨_, List.getElem?_eq_getElem hlt⟩
      obtain ⟨uv, hrd, g0, g1, g2, g3, g4⟩ := hcell k s hs
      obtain ⟨A2, c2, rfl, hvc, hvm⟩ := rds_form hrd.rds
      have hsv := HV.out s (List.mem_of_getElem? hs)
      have hvl := hsv.1
      have HSV := Lib.hid hsv.2
      have HRV : Hid (RdS w w.heap.size 4 encValue (.slice A2 s.values.length c2) s.values) := Lib.hid hrd.rds
      have C4 : Hid (∀ W, Below w.heap.size w W → W.cell? ⟨b, off + k * 5 + 4, none⟩ = some (.slice A2 s.values.length c2)) := Lib.hid fun W hW => (hW.cell (p := ⟨b, off + k * 5 + 4, none⟩) hb).trans g4
      obtain ⟨pre, hpre⟩ : ∃ p, p = Sg.valsS (ss.take k) := ⟨_, rfl⟩
      have HPR : Hid (Sg.valsS (ss.take (k + 1)) = pre ++ s.values) := Lib.hid (by
        rw [hpre]; unfold Sg.valsS
        rw [List.take_add_one, hs, List.flatMap_append]; simp)
      rw [← hpre] at HAC
      have hkI : (0 : Int) ≤ (k : Int) := by omega
      have hkJ : (k : Int) < (ss.length : Int) := by omega
      clear hcell hs g0 g1 g2 g3 g4 hrd hsv hpre
      go_wp2_with fail
      go_loopg [3, 5] s.values.length (fun g vv i wr => ∃ (m : Nat) (acc : List Sg.Value), m ≤ s.values.length ∧ g = s.values.length - m ∧ i = .int .i64 (m : Nat) ∧ Below w.heap.size w wr ∧ RdA wr vv acc ∧ acc = Sg.foldP ((pre ++ s.values.take m).flatMap Sg.ptsOf) ∧ acc.length ≤ 108 * k + 9 * m)
      case atStart => exact ⟨0, acc, Nat.zero_le _, rfl, rfl, hbel, HRA.out, by rw [HAC.out]; simp, by omega⟩
      case round =>
        clear HRA HAC HBR hal hbel acc
        obtain ⟨m, acc, hm, rfl, rfl, hbel, hra, hacc, hal⟩ := hrel
        have HBR := Lib.hid hbel
        have HRA := Lib.hid hra
        have HAC := Lib.hid hacc
        clear hacc hra
        have x4 := C4.out _ hbel
        by_cases hmt : m < s.values.length
        · obtain ⟨y, hy⟩ : ∃ y, s.values[m]? = some y := ⟨_, List.getElem?_eq_getElem hmt⟩
          have hyf := HSV.out y (List.mem_of_getElem? hy)
          obtain ⟨ky, sy, ly, uy⟩ := y
          have hyf' : 1 ≤ ly ∧ ly ≤ uy ∧ uy ≤ 9 := hyf
          obtain ⟨b2, o2, rfl, hb2, hcv⟩ := RdX.four HRV.out (by omega)
          obtain ⟨g0, g1, g2, g3⟩ := hcv m _ hy
          have f0 := (hbel.cell (p := ⟨b2, o2 + m * 4, none⟩) hb2).trans g0
          have f1 := (hbel.cell (p := ⟨b2, o2 + m * 4 + 1, none⟩) hb2).trans g1
          have f2 := (hbel.cell (p := ⟨b2, o2 + m * 4 + 2, none⟩) hb2).trans g2
          have f3 := (hbel.cell (p := ⟨b2, o2 + m * 4 + 3, none⟩) hb2).trans g3
          obtain ⟨wS, hwS⟩ : ∃ wS, wS = wr.alloc (.cells #[.int .i64 ky, .string sy, .int .i64 ly, .int .i64 uy] 60) := ⟨_, rfl⟩
          have hbS : Below wr.heap.size wr wS := by rw [hwS]; exact (Below.refl _ _).alloc (Nat.le_refl _) _
          have hsb : wS.heap[wr.heap.size]? = some (.cells #[.int .i64 ky, .string sy, .int .i64 ly, .int .i64 uy] 60 (0, 0)) := by rw [hwS]; exact heap_alloc_new _ _
          have hszS : wr.heap.size < wS.heap.size := by rw [hwS]; simp
          obtain ⟨vb, hvb⟩ : ∃ vb, vb = wr.heap.size := ⟨_, rfl⟩
          have CVS : Hid (∀ W, Below wS.heap.size wS W → W.cell? ⟨vb, 0, none⟩ = some (.int .i64 ky) ∧ W.cell? ⟨vb, 1, none⟩ = some (.string sy) ∧ W.cell? ⟨vb, 2, none⟩ = some (.int .i64 ly) ∧ W.cell? ⟨vb, 3, none⟩ = some (.int .i64 uy)) := Lib.hid fun W hW => by
            have p := (hW.block _ hszS).trans hsb
            rw [← hvb] at p
            exact ⟨by simp [World.cell?, p], by simp [World.cell?, p], by simp [World.cell?, p], by simp [World.cell?, p]⟩
          have HBS := Lib.hid (hbel.trans (hbS.mono hbel.size))
          have HRS := Lib.hid (HRA.out.on hbS)
          have HWS := Lib.hid hwS
          have HVB := Lib.hid hvb
          have HNX : Hid (Sg.foldP ((pre ++ s.values.take (m + 1)).flatMap Sg.ptsOf) = Sg.foldP ((pre ++ s.values.take m).flatMap Sg.ptsOf ++ Sg.ptsOf ⟨ky, sy, ly, uy⟩)) := Lib.hid (by
            rw [List.take_add_one, hy, ← List.append_assoc, List.flatMap_append]; simp)
          have hmI : (0 : Int) ≤ (m : Int) := by omega
          have hmJ : (m : Int) < (s.values.length : Int) := by omega
          clear hcv hy hyf g0 g1 g2 g3 hwS hbS hsb hvb hszS
          go_upto_region 9 with fail
          rw [← HWS.out, ← HVB.out]
          clear f0 f1 f2 f3 x4
          obtain ⟨n0, n1, n2, n3⟩ := CVS.out wS (Below.refl _ _)
          go_wp2_with fail
          clear n0 n1 n2 n3
          obtain ⟨N, hN⟩ : ∃ N, N = (uy + 1 - ly).toNat := ⟨_, rfl⟩
          go_loopg [3, 7] N (fun g vv i wr => ∃ (j : Nat) (acc : List Sg.Value), j ≤ N ∧ g = N - j ∧ i = .int .i64 (ly + (j : Nat)) ∧ Below wS.heap.size wS wr ∧ RdA wr vv acc ∧ acc = Sg.foldP ((pre ++ s.values.take m).flatMap Sg.ptsOf ++ (Sg.ptsOf ⟨ky, sy, ly, uy⟩).take j) ∧ acc.length ≤ 108 * k + 9 * m + j)
          case atStart => exact ⟨0, acc, Nat.zero_le _, rfl, (by simp), Below.refl _ _, HRS.out, by rw [HAC.out]; simp, by omega⟩
          case round =>
            clear HRA HAC HRS HBR hal hbel acc
            obtain ⟨j, acc, hj, rfl, rfl, hbel, hra, hacc, hal⟩ := hrel
            have HBJ := Lib.hid hbel
            have HRA := Lib.hid hra
            have HAC := Lib.hid hacc
            clear hacc hra
            obtain ⟨n0, n1, n2, n3⟩ := CVS.out _ hbel
            by_cases hjt : j < N
            · have HPT := Lib.hid (r1putA_any _ acc ⟨ky, sy, ly + (j : Nat), ly + (j : Nat)⟩ _ HRA.out (by omega))
              have HNJ : Hid (Sg.foldP ((pre ++ s.values.take m).flatMap Sg.ptsOf ++ (Sg.ptsOf ⟨ky, sy, ly, uy⟩).take (j + 1)) = Sg.putV ⟨ky, sy, ly + (j : Nat), ly + (j : Nat)⟩ acc) := Lib.hid (by
                rw [Sg.pts_next (v := ⟨ky, sy, ly, uy⟩) (by rw [← hN]; exact hjt), ← List.append_assoc, Sg.foldP_snoc, ← HAC.out])
              have hle : ly + (j : Int) ≤ uy := by omega
              have hpl := Sg.putV_len ⟨ky, sy, ly + (j : Nat), ly + (j : Nat)⟩ acc
              obtain ⟨acc2, hacc2⟩ : ∃ a, a = Sg.putV ⟨ky, sy, ly + (j : Nat), ly + (j : Nat)⟩ acc := ⟨_, rfl⟩
              rw [← hacc2] at HPT HNJ hpl
              clear hacc2
              go_wp2_with fail
              refine HPT.out.mono ?_
              rintro e w5 ⟨v5, rfl, hra5, hb5⟩
              have HB5 := Lib.hid (HBJ.out.trans (hb5.mono HBJ.out.size))
              have HR5 := Lib.hid hra5
              clear hb5 hra5 n0 n1 n2 n3
              go_wp2_with fail
              go_roundg (N - (j + 1))
              case measure => omega
              case rel => exact ⟨j + 1, acc2, by omega, rfl, by go_num, HB5.out, HR5.out, HNJ.out.symm, by omega⟩
            · have hjN : j = N := by omega
              have hle : ¬ ly + (j : Int) ≤ uy := by omega
              have HBM := Lib.hid (HBS.out.trans (HBJ.out.mono HBS.out.size))
              have HAM : Hid (acc = Sg.foldP ((pre ++ s.values.take (m + 1)).flatMap Sg.ptsOf)) := Lib.hid (by
                rw [HNX.out, HAC.out, hjN, hN]
                rw [Sg.pts_all ⟨ky, sy, ly, uy⟩])
              have hal2 : acc.length ≤ 108 * k + 9 * (m + 1) := by omega
              clear hjN
              go_wp2_with fail
              go_roundg (s.values.length - (m + 1))
              case measure => omega
              case rel => exact ⟨m + 1, acc, by omega, rfl, by go_num, HBM.out, HRA.out, HAM.out, hal2⟩
        · have hmJ : ¬ (m : Int) < (s.values.length : Int) := by omega
          have HAK : Hid (acc = Sg.foldP ((Sg.valsS (ss.take (k + 1))).flatMap Sg.ptsOf)) := Lib.hid (by rw [HAC.out, HPR.out, List.take_of_length_le (by omega)])
          have hal2 : acc.length ≤ 108 * (k + 1) := by omega
          go_wp2_with fail
          go_roundg (ss.length - (k + 1))
          case measure => omega
          case rel => exact ⟨k + 1, acc, by omega, rfl, by go_num, HBR.out, HRA.out, HAK.out, hal2⟩
    · have HAE : Hid (acc = Sg.ptsL (Sg.valsS ss)) := Lib.hid (by rw [HAC.out, List.take_of_length_le (by omega)]; rfl)
      have hkJ : ¬ (k : Int) < (ss.length : Int) := by omega
      have HRQ := Lib.hid HRA.out.rds
      obtain ⟨A3, c3, rfl, hc3, hm3⟩ := rds_form HRQ.out
      have HAF : Hid (∀ x ∈ acc, 0 ≤ x.hi ∧ x.hi ≤ 100) := Lib.hid (by
        rw [HAC.out]
        refine Sg.foldP_fine fun x hx => ?_
        obtain ⟨u, hu, hx⟩ := List.mem_flatMap.1 hx
        obtain ⟨s, hs, hu⟩ := List.mem_flatMap.1 hu
        have h1 := (HV.out s (List.mem_of_mem_take hs)).2 u hu
        obtain ⟨-, h2, h3, h4⟩ := Sg.ptsOf_mem.1 hx
        unfold Sg.Pt at h2
        omega)
      have hal3 : acc.length ≤ 216 := by omega
      clear HRA
      go_wp2_with fail
      rename World => w3
      go_loopg [8, 9] acc.length (fun g vv i wr => ∃ (k : Nat) (q : List Sg.Value), k ≤ acc.length ∧ g = acc.length - k ∧ i = .int .i64 (k : Nat) ∧ Below w3.heap.size w3 wr ∧ wr.ownsRow w3.heap.size 60 4 vv q.length (q.flatMap encValue) ∧ Sg.joinV (acc.take k) = q)
      case atStart => exact ⟨0, [], Nat.zero_le _, rfl, rfl, Below.refl _ _, World.ownsRow_nil _ _ _ _, rfl⟩
      case round =>
        clear hlt hk hkJ hbel
        obtain ⟨k, q, hk, rfl, rfl, hbel, hown, hq⟩ := hrel
        have HB4 := Lib.hid hbel
        have hszr := hbel.size
        have HJF := Sg.join_fine HAF.out k
        rw [hq] at HJF
        by_cases hlt : k < acc.length
        · obtain ⟨y, hy⟩ : ∃ y, acc[k]? = some y := ⟨_, List.getElem?_eq_getElem hlt⟩
          have hnx := Sg.joinV_next hy
          rw [hq] at hnx
          have hyf := HAF.out y (List.mem_of_getElem? hy)
          have hql := HJF.2
          have hqf := HJF.1
          obtain ⟨kv, sv, lv, hv⟩ := y
          have hyf' : 0 ≤ hv ∧ hv ≤ 100 := hyf
          obtain ⟨b1, o1, rfl, hb1, hcv⟩ := RdX.four HRQ.out (by omega)
          obtain ⟨g0, g1, g2, g3⟩ := hcv k _ hy
          have f0 := (hbel.cell (p := ⟨b1, o1 + k * 4, none⟩) hb1).trans g0
          have f1 := (hbel.cell (p := ⟨b1, o1 + k * 4 + 1, none⟩) hb1).trans g1
          have f2 := (hbel.cell (p := ⟨b1, o1 + k * 4 + 2, none⟩) hb1).trans g2
          have f3 := (hbel.cell (p := ⟨b1, o1 + k * 4 + 3, none⟩) hb1).trans g3
          have HOK := Lib.hid hown
          have hkI : (0 : Int) ≤ (k : Int) := by omega
          have hkJ : (k : Int) < (acc.length : Int) := by omega
          clear hcv hy g0 g1 g2 g3 hq hown HJF hyf
          rcases Lx.list_rev_ind (P := fun q => q = [] ∨ ∃ r u, q = r ++ [u]) (.inl rfl) (fun l a _ => .inr ⟨l, a, rfl⟩) q with rfl | ⟨r, u, rfl⟩
          · have HNX : Hid (Sg.joinV (acc.take (k + 1)) = [] ++ [⟨kv, sv, lv, hv⟩]) := Lib.hid (by rw [hnx]; rfl)
            obtain ⟨Av, cv, rfl⟩ := own_form HOK.out
            clear hnx hqf
            go_upto_region 18 with fail
            go_quiet (fail)
            generalize hwc : World.drewN _ _ = wc
            have HXR : Hid (Below wr.heap.size wr wc) := Lib.hid (by rw [← hwc]; exact below_drewN (Below.refl _ _) _)
            have HBX := Lib.hid (HB4.out.trans (HXR.out.mono HB4.out.size))
            have y0 : wc.cell? ⟨b1, o1 + k * 4, none⟩ = some (.int .i64 kv) := by rw [← hwc]; exact f0
            have y1 : wc.cell? ⟨b1, o1 + k * 4 + 1, none⟩ = some (.string sv) := by rw [← hwc]; exact f1
            have y2 : wc.cell? ⟨b1, o1 + k * 4 + 2, none⟩ = some (.int .i64 lv) := by rw [← hwc]; exact f2
            have y3 : wc.cell? ⟨b1, o1 + k * 4 + 3, none⟩ = some (.int .i64 hv) := by rw [← hwc]; exact f3
            clear hwc f0 f1 f2 f3
            have HOS : Hid ((wc.alloc (.cells #[.int .i64 kv, .string sv, .int .i64 lv, .int .i64 hv] 60)).ownsRow w3.heap.size 60 4 (.slice Av 0 cv) 0 (([] : List Sg.Value).flatMap encValue)) := Lib.hid (keep_own HOK.out (HXR.out.alloc HXR.out.size _))
            have HRD := Lib.hid (rd_one_value wc ⟨kv, sv, lv, hv⟩)
            have hk1 : 0 + 1 ≤ maxLen := by simp only [maxLen]; omega
            have hk2 : (0 + 1) * 40 ≤ 140737488355328 := by omega
            have hbase : w3.heap.size ≤ (wc.alloc (.cells #[.int .i64 kv, .string sv, .int .i64 lv, .int .i64 hv] 60)).heap.size := by have := HBX.out.size; simp; omega
            go_wp2_with (at_builtin; go_must (refine wpList_append_rd (enc := encValue) rfl (.tmp 112) (.tmp 117) _ rfl w3.heap.size 60 i1 _ 4 40 len_value one_value Tryz.underlying47 hi1 hz1 hs1' hb1' rfl (by decide) (.slice Av 0 cv) 0 (([] : List Sg.Value).flatMap encValue) rfl HOS.out _ (.slice (some ⟨wc.heap.size, 0, none⟩) 1 1) [(⟨kv, sv, lv, hv⟩ : Sg.Value)] rfl HRD.out hk1 hk2 hbase ?_))
            intro v8 w8 hown8 hg8 hat8
            have HB8 : Hid (Below w3.heap.size w3 w8) := Lib.hid ((HBX.out.alloc HBX.out.size _).grown hg8 hbase (fun q hq => (HOS.out.lt q hq).1))
            have HO8 : Hid (w8.ownsRow w3.heap.size 60 4 v8 (([] : List Sg.Value) ++ [(⟨kv, sv, lv, hv⟩ : Sg.Value)]).length ((([] : List Sg.Value) ++ [(⟨kv, sv, lv, hv⟩ : Sg.Value)]).flatMap encValue)) := Lib.hid (own_appQ hown8 (by simp) (by simp))
            clear hown8 hg8 hat8 y0 y1 y2 y3
            go_wp2_with fail
            go_roundg (acc.length - (k + 1))
            case measure => omega
            case rel => exact ⟨k + 1, ([] : List Sg.Value) ++ [⟨kv, sv, lv, hv⟩], by omega, rfl, by go_num, HB8.out, HO8.out, HNX.out⟩
          · obtain ⟨ku, su, lu, hu⟩ := u
            obtain ⟨m, hm⟩ : ∃ m, m = r.length := ⟨_, rfl⟩
            have hl1 : (r ++ [(⟨ku, su, lu, hu⟩ : Sg.Value)]).length = m + 1 := by rw [List.length_append, hm]; rfl
            rw [hl1] at HOK hql
            obtain ⟨Av, cv, rfl⟩ := own_form HOK.out
            obtain ⟨b, rfl⟩ : ∃ b, Av = some ⟨b, 0, none⟩ := by
              rcases HOK.out.2 with ⟨-, e⟩ | ⟨g, cap, cur, e, -⟩
              · omega
              · injection e with e1
                exact ⟨g, e1⟩
            have huf : 0 ≤ hu ∧ hu ≤ 100 := hqf ⟨ku, su, lu, hu⟩ (by simp)
            have hcu := HOK.out.cells rfl
            have hat := flat_at len_value (r ++ [(⟨ku, su, lu, hu⟩ : Sg.Value)]) m ⟨ku, su, lu, hu⟩ (by rw [hm]; simp)
            have u0 := hcu (m * 4) _ (hat 0 _ rfl)
            have u1 := hcu (m * 4 + 1) _ (hat 1 _ rfl)
            have u2 := hcu (m * 4 + 2) _ (hat 2 _ rfl)
            have u3 := hcu (m * 4 + 3) _ (hat 3 _ rfl)
            rw [addr_add, Nat.zero_add] at u0 u1 u2 u3
            have z3 : wr.frozen? ⟨b, m * 4 + 3, none⟩ = false := own_free HOK.out (m * 4 + 3)
            have hm0 : (0 : Int) ≤ (m : Int) := by omega
            have hm1 : (m : Int) < (m : Int) + 1 := by omega
            have HMR := Lib.hid hm
            clear hcu hqf hl1 hm hat
            have hcs : (ku ≠ kv) ∨ (ku = kv ∧ su ≠ sv) ∨ (ku = kv ∧ su = sv ∧ hu + 1 ≠ lv) ∨ (ku = kv ∧ su = sv ∧ hu + 1 = lv) := by
              by_cases h1 : ku = kv
              · by_cases h2 : su = sv
                · by_cases h3 : hu + 1 = lv
                  · exact .inr (.inr (.inr ⟨h1, h2, h3⟩))
                  · exact .inr (.inr (.inl ⟨h1, h2, h3⟩))
                · exact .inr (.inl ⟨h1, h2⟩)
              · exact .inl h1
            rcases hcs with h1 | ⟨h0, h1⟩ | ⟨h0, h0', h1⟩ | ⟨h0, h0', h1⟩
            · have HNX : Hid (Sg.joinV (acc.take (k + 1)) = (r ++ [⟨ku, su, lu, hu⟩]) ++ [⟨kv, sv, lv, hv⟩]) := Lib.hid (by rw [hnx]; exact Sg.joinS_app fun h => h1 h.1.1)
              have e1 : (ku == kv) = false := by rw [beq_eq_false_iff_ne]; exact h1
              clear h1 hnx
              go_upto_region 18 with fail
              go_quiet (fail)
              generalize hwc : World.drewN _ _ = wc
              have HXR : Hid (Below wr.heap.size wr wc) := Lib.hid (by rw [← hwc]; exact below_drewN (Below.refl _ _) _)
              have HBX := Lib.hid (HB4.out.trans (HXR.out.mono HB4.out.size))
              have y0 : wc.cell? ⟨b1, o1 + k * 4, none⟩ = some (.int .i64 kv) := by rw [← hwc]; exact f0
              have y1 : wc.cell? ⟨b1, o1 + k * 4 + 1, none⟩ = some (.string sv) := by rw [← hwc]; exact f1
              have y2 : wc.cell? ⟨b1, o1 + k * 4 + 2, none⟩ = some (.int .i64 lv) := by rw [← hwc]; exact f2
              have y3 : wc.cell? ⟨b1, o1 + k * 4 + 3, none⟩ = some (.int .i64 hv) := by rw [← hwc]; exact f3
              clear hwc f0 f1 f2 f3
              have HOS : Hid ((wc.alloc (.cells #[.int .i64 kv, .string sv, .int .i64 lv, .int .i64 hv] 60)).ownsRow w3.heap.size 60 4 (.slice (some ⟨b, 0, none⟩) (m + 1) cv) (m + 1) ((r ++ [(⟨ku, su, lu, hu⟩ : Sg.Value)]).flatMap encValue)) := Lib.hid (keep_own HOK.out (HXR.out.alloc HXR.out.size _))
              have HRD := Lib.hid (rd_one_value wc ⟨kv, sv, lv, hv⟩)
              have hk1 : (m + 1) + 1 ≤ maxLen := by simp only [maxLen]; omega
              have hk2 : ((m + 1) + 1) * 40 ≤ 140737488355328 := by omega
              have hbase : w3.heap.size ≤ (wc.alloc (.cells #[.int .i64 kv, .string sv, .int .i64 lv, .int .i64 hv] 60)).heap.size := by have := HBX.out.size; simp; omega
              go_wp2_with (at_builtin; go_must (refine wpList_append_rd (enc := encValue) rfl (.tmp 112) (.tmp 117) _ rfl w3.heap.size 60 i1 _ 4 40 len_value one_value Tryz.underlying47 hi1 hz1 hs1' hb1' rfl (by decide) (.slice (some ⟨b, 0, none⟩) (m + 1) cv) (m + 1) ((r ++ [(⟨ku, su, lu, hu⟩ : Sg.Value)]).flatMap encValue) rfl HOS.out _ (.slice (some ⟨wc.heap.size, 0, none⟩) 1 1) [(⟨kv, sv, lv, hv⟩ : Sg.Value)] rfl HRD.out hk1 hk2 hbase ?_))
              intro v8 w8 hown8 hg8 hat8
              have HB8 : Hid (Below w3.heap.size w3 w8) := Lib.hid ((HBX.out.alloc HBX.out.size _).grown hg8 hbase (fun q hq => (HOS.out.lt q hq).1))
              have HO8 : Hid (w8.ownsRow w3.heap.size 60 4 v8 ((r ++ [(⟨ku, su, lu, hu⟩ : Sg.Value)]) ++ [(⟨kv, sv, lv, hv⟩ : Sg.Value)]).length (((r ++ [(⟨ku, su, lu, hu⟩ : Sg.Value)]) ++ [(⟨kv, sv, lv, hv⟩ : Sg.Value)]).flatMap encValue)) := Lib.hid (own_appQ hown8 (by simp; have := HMR.out; omega) (by simp))
              clear hown8 hg8 hat8 y0 y1 y2 y3
              go_wp2_with fail
              go_roundg (acc.length - (k + 1))
              case measure => omega
              case rel => exact ⟨k + 1, (r ++ [(⟨ku, su, lu, hu⟩ : Sg.Value)]) ++ [⟨kv, sv, lv, hv⟩], by omega, rfl, by go_num, HB8.out, HO8.out, HNX.out⟩
            · have HNX : Hid (Sg.joinV (acc.take (k + 1)) = (r ++ [⟨ku, su, lu, hu⟩]) ++ [⟨kv, sv, lv, hv⟩]) := Lib.hid (by rw [hnx]; exact Sg.joinS_app fun h => h1 h.1.2)
              have e1 : (ku == kv) = true := by rw [beq_iff_eq]; exact h0
              have e2 : (su.toList == sv.toList) = false := Lx.toList_ne h1
              clear h0 h1 hnx
              go_upto_region 18 with fail
              go_quiet (fail)
              generalize hwc : World.drewN _ _ = wc
              have HXR : Hid (Below wr.heap.size wr wc) := Lib.hid (by rw [← hwc]; exact below_drewN (Below.refl _ _) _)
              have HBX := Lib.hid (HB4.out.trans (HXR.out.mono HB4.out.size))
              have y0 : wc.cell? ⟨b1, o1 + k * 4, none⟩ = some (.int .i64 kv) := by rw [← hwc]; exact f0
              have y1 : wc.cell? ⟨b1, o1 + k * 4 + 1, none⟩ = some (.string sv) := by rw [← hwc]; exact f1
              have y2 : wc.cell? ⟨b1, o1 + k * 4 + 2, none⟩ = some (.int .i64 lv) := by rw [← hwc]; exact f2
              have y3 : wc.cell? ⟨b1, o1 + k * 4 + 3, none⟩ = some (.int .i64 hv) := by rw [← hwc]; exact f3
              clear hwc f0 f1 f2 f3
              have HOS : Hid ((wc.alloc (.cells #[.int .i64 kv, .string sv, .int .i64 lv, .int .i64 hv] 60)).ownsRow w3.heap.size 60 4 (.slice (some ⟨b, 0, none⟩) (m + 1) cv) (m + 1) ((r ++ [(⟨ku, su, lu, hu⟩ : Sg.Value)]).flatMap encValue)) := Lib.hid (keep_own HOK.out (HXR.out.alloc HXR.out.size _))
              have HRD := Lib.hid (rd_one_value wc ⟨kv, sv, lv, hv⟩)
              have hk1 : (m + 1) + 1 ≤ maxLen := by simp only [maxLen]; omega
              have hk2 : ((m + 1) + 1) * 40 ≤ 140737488355328 := by omega
              have hbase : w3.heap.size ≤ (wc.alloc (.cells #[.int .i64 kv, .string sv, .int .i64 lv, .int .i64 hv] 60)).heap.size := by have := HBX.out.size; simp; omega
              go_wp2_with (at_builtin; go_must (refine wpList_append_rd (enc := encValue) rfl (.tmp 112) (.tmp 117) _ rfl w3.heap.size 60 i1 _ 4 40 len_value one_value Tryz.underlying47 hi1 hz1 hs1' hb1' rfl (by decide) (.slice (some ⟨b, 0, none⟩) (m + 1) cv) (m + 1) ((r ++ [(⟨ku, su, lu, hu⟩ : Sg.Value)]).flatMap encValue) rfl HOS.out _ (.slice (some ⟨wc.heap.size, 0, none⟩) 1 1) [(⟨kv, sv, lv, hv⟩ : Sg.Value)] rfl HRD.out hk1 hk2 hbase ?_))
              intro v8 w8 hown8 hg8 hat8
              have HB8 : Hid (Below w3.heap.size w3 w8) := Lib.hid ((HBX.out.alloc HBX.out.size _).grown hg8 hbase (fun q hq => (HOS.out.lt q hq).1))
              have HO8 : Hid (w8.ownsRow w3.heap.size 60 4 v8 ((r ++ [(⟨ku, su, lu, hu⟩ : Sg.Value)]) ++ [(⟨kv, sv, lv, hv⟩ : Sg.Value)]).length (((r ++ [(⟨ku, su, lu, hu⟩ : Sg.Value)]) ++ [(⟨kv, sv, lv, hv⟩ : Sg.Value)]).flatMap encValue)) := Lib.hid (own_appQ hown8 (by simp; have := HMR.out; omega) (by simp))
              clear hown8 hg8 hat8 y0 y1 y2 y3
              go_wp2_with fail
              go_roundg (acc.length - (k + 1))
              case measure => omega
              case rel => exact ⟨k + 1, (r ++ [(⟨ku, su, lu, hu⟩ : Sg.Value)]) ++ [⟨kv, sv, lv, hv⟩], by omega, rfl, by go_num, HB8.out, HO8.out, HNX.out⟩
            · have HNX : Hid (Sg.joinV (acc.take (k + 1)) = (r ++ [⟨ku, su, lu, hu⟩]) ++ [⟨kv, sv, lv, hv⟩]) := Lib.hid (by rw [hnx]; exact Sg.joinS_app fun h => h1 h.2)
              have e1 : (ku == kv) = true := by rw [beq_iff_eq]; exact h0
              have e2 : (su.toList == sv.toList) = true := by rw [beq_iff_eq, h0']
              have e3 : (hu + 1 == lv) = false := by rw [beq_eq_false_iff_ne]; exact h1
              clear h0 h0' h1 hnx
              go_upto_region 18 with fail
              go_quiet (fail)
              generalize hwc : World.drewN _ _ = wc
              have HXR : Hid (Below wr.heap.size wr wc) := Lib.hid (by rw [← hwc]; exact below_drewN (Below.refl _ _) _)
              have HBX := Lib.hid (HB4.out.trans (HXR.out.mono HB4.out.size))
              have y0 : wc.cell? ⟨b1, o1 + k * 4, none⟩ = some (.int .i64 kv) := by rw [← hwc]; exact f0
              have y1 : wc.cell? ⟨b1, o1 + k * 4 + 1, none⟩ = some (.string sv) := by rw [← hwc]; exact f1
              have y2 : wc.cell? ⟨b1, o1 + k * 4 + 2, none⟩ = some (.int .i64 lv) := by rw [← hwc]; exact f2
              have y3 : wc.cell? ⟨b1, o1 + k * 4 + 3, none⟩ = some (.int .i64 hv) := by rw [← hwc]; exact f3
              clear hwc f0 f1 f2 f3
              have HOS : Hid ((wc.alloc (.cells #[.int .i64 kv, .string sv, .int .i64 lv, .int .i64 hv] 60)).ownsRow w3.heap.size 60 4 (.slice (some ⟨b, 0, none⟩) (m + 1) cv) (m + 1) ((r ++ [(⟨ku, su, lu, hu⟩ : Sg.Value)]).flatMap encValue)) := Lib.hid (keep_own HOK.out (HXR.out.alloc HXR.out.size _))
              have HRD := Lib.hid (rd_one_value wc ⟨kv, sv, lv, hv⟩)
              have hk1 : (m + 1) + 1 ≤ maxLen := by simp only [maxLen]; omega
              have hk2 : ((m + 1) + 1) * 40 ≤ 140737488355328 := by omega
              have hbase : w3.heap.size ≤ (wc.alloc (.cells #[.int .i64 kv, .string sv, .int .i64 lv, .int .i64 hv] 60)).heap.size := by have := HBX.out.size; simp; omega
              go_wp2_with (at_builtin; go_must (refine wpList_append_rd (enc := encValue) rfl (.tmp 112) (.tmp 117) _ rfl w3.heap.size 60 i1 _ 4 40 len_value one_value Tryz.underlying47 hi1 hz1 hs1' hb1' rfl (by decide) (.slice (some ⟨b, 0, none⟩) (m + 1) cv) (m + 1) ((r ++ [(⟨ku, su, lu, hu⟩ : Sg.Value)]).flatMap encValue) rfl HOS.out _ (.slice (some ⟨wc.heap.size, 0, none⟩) 1 1) [(⟨kv, sv, lv, hv⟩ : Sg.Value)] rfl HRD.out hk1 hk2 hbase ?_))
              intro v8 w8 hown8 hg8 hat8
              have HB8 : Hid (Below w3.heap.size w3 w8) := Lib.hid ((HBX.out.alloc HBX.out.size _).grown hg8 hbase (fun q hq => (HOS.out.lt q hq).1))
              have HO8 : Hid (w8.ownsRow w3.heap.size 60 4 v8 ((r ++ [(⟨ku, su, lu, hu⟩ : Sg.Value)]) ++ [(⟨kv, sv, lv, hv⟩ : Sg.Value)]).length (((r ++ [(⟨ku, su, lu, hu⟩ : Sg.Value)]) ++ [(⟨kv, sv, lv, hv⟩ : Sg.Value)]).flatMap encValue)) := Lib.hid (own_appQ hown8 (by simp; have := HMR.out; omega) (by simp))
              clear hown8 hg8 hat8 y0 y1 y2 y3
              go_wp2_with fail
              go_roundg (acc.length - (k + 1))
              case measure => omega
              case rel => exact ⟨k + 1, (r ++ [(⟨ku, su, lu, hu⟩ : Sg.Value)]) ++ [⟨kv, sv, lv, hv⟩], by omega, rfl, by go_num, HB8.out, HO8.out, HNX.out⟩
            · have HNX : Hid (Sg.joinV (acc.take (k + 1)) = r ++ [⟨ku, su, lu, hv⟩]) := Lib.hid (by rw [hnx]; exact Sg.joinS_join ⟨⟨h0, h0'⟩, h1⟩)
              have e1 : (ku == kv) = true := by rw [beq_iff_eq]; exact h0
              have e2 : (su.toList == sv.toList) = true := by rw [beq_iff_eq, h0']
              have e3 : (hu + 1 == lv) = true := by rw [beq_iff_eq]; exact h1
              clear h0 h0' h1 hnx
              go_upto_region 18 with fail
              go_quiet (fail)
              generalize hwc : World.drewN _ _ = wc
              have HXR : Hid (Below wr.heap.size wr wc) := Lib.hid (by rw [← hwc]; exact below_drewN (Below.refl _ _) _)
              have y3 : wc.cell? ⟨b1, o1 + k * 4 + 3, none⟩ = some (.int .i64 hv) := by rw [← hwc]; exact f3
              have z4 : wc.frozen? ⟨b, m * 4 + 3, none⟩ = false := by rw [← hwc]; exact z3
              have y4 : wc.cell? ⟨b, m * 4 + 3, none⟩ = some (.int .i64 hu) := by rw [← hwc]; exact u3
              have HOX := Lib.hid (keep_own HOK.out HXR.out)
              have HBX := Lib.hid (HB4.out.trans (HXR.out.mono HB4.out.size))
              have HBN : Hid (Below w3.heap.size w3 (wc.setCell ⟨b, m * 4 + 3, none⟩ (.int .i64 hv))) := Lib.hid (HBX.out.setCell (p := ⟨b, m * 4 + 3, none⟩) (HOX.out.lt b rfl).1 _)
              have HON : Hid ((wc.setCell ⟨b, m * 4 + 3, none⟩ (.int .i64 hv)).ownsRow w3.heap.size 60 4 (.slice (some ⟨b, 0, none⟩) (m + 1) cv) (m + 1) ((r ++ [(⟨ku, su, lu, hv⟩ : Sg.Value)]).flatMap encValue)) := Lib.hid (own_last hv HMR.out.symm HOX.out)
              clear hwc f0 f1 f2 f3 u0 u1 u2 u3 z3 e1 e2 e3
              go_wp2_with fail
              go_roundg (acc.length - (k + 1))
              case measure => omega
              case rel => exact ⟨k + 1, r ++ [⟨ku, su, lu, hv⟩], by omega, rfl, by go_num, HBN.out, by rw [own_lenM HMR.out]; exact HON.out, HNX.out⟩
        · have HE : Hid (q = Sg.tidiedV (Sg.valsS ss)) := Lib.hid (by
            rw [← hq, List.take_of_length_le (by omega), HAE.out]; rfl)
          have HBF := Lib.hid (HBR.out.trans (hbel.mono HBR.out.size))
          have hkJ : ¬ (k : Int) < (acc.length : Int) := by omega
          clear hq HJF
          go_wp2_with fail
          go_ret
          exact ⟨_, rfl, by rw [← HE.out]; exact hown.mono HBR.out.size, HBF.out⟩
end Go.Proofs.YtkmimjngmfdpmaaGreatDoor
namespace Sg
open Go
theorem check_sign {l : SList} (h : checkV l = 0) : (1 ≤ l.periods ∧ l.periods ≤ 9) ∧ l.signs.length ≤ 200 ∧ ∀ (i : Nat) (s : Sign), l.signs[i]? = some s → signV l.periods (l.signs.take i) s = 0 := by
  unfold checkV at h
  split at h
  · cases h
  · split at h
    · cases h
    · refine ⟨by omega, by omega, fun i s hs => ?_⟩
      have := firstE_ne h i (List.getElem?_eq_some_iff.1 hs).1
      rwa [signAt, hs] at this
theorem sign_parts {p : Int} {b : List Sign} {s : Sign} (h : signV p b s = 0) : codeB s.code = true ∧ b.any (fun t => decide (t.code = s.code)) = false ∧ ¬ sizeBad s ∧ s.values.length ≤ 12 ∧ valuesV p s.values = 0 := by
  unfold signV at h
  split at h
  · cases h
  · rename_i h1
    rw [not_or] at h1
    unfold bodyV at h
    split at h
    · cases h
    · split at h
      · cases h
      · exact ⟨by simpa using h1.1, by simpa using h1.2, by assumption, by omega, h⟩
theorem value_at {p : Int} {l : List Value} (h : valuesV p l = 0) {k : Nat} {v : Value} (hv : l[k]? = some v) : (1 ≤ v.kind ∧ v.kind ≤ 3 ∧ textB v.kind v.text = true) ∧ (1 ≤ v.lo ∧ v.lo ≤ v.hi ∧ v.hi ≤ p) ∧ (l.take k).any (meetB v) = false := by
  have h0 := firstE_ne h k (List.getElem?_eq_some_iff.1 hv).1
  rw [valueAt, hv] at h0
  simp only at h0
  unfold valueV at h0
  split at h0
  · cases h0
  · split at h0
    · cases h0
    · split at h0
      · cases h0
      · rename_i a b c
        rw [not_or, not_or] at a b
        exact ⟨⟨by omega, by omega, by simpa using a.2.2⟩, ⟨by omega, by omega, by omega⟩, by simpa using c⟩
/-- the digits of a place -/
def sfx (q : Nat) : List UInt8 := if q = 0 then [] else Lib.decDigits (q + 1)
end Sg
namespace Sg
open Go
/-- what Tidy and Restrict make of a list -/
def tidyS (s : Sign) : Sign := ⟨s.code, s.wide, s.high, s.even, tidiedV s.values⟩
def noL : SList := ⟨0, []⟩
end Sg
namespace Go.Proofs.YtkmimjngmfdpmaaGreatDoor
open Go Go.RowKit

def RetListE (q : Sg.SList) (er : Int) (w : World) (e : Ending) (w' : World) : Prop := ∃ v, e = .returned (.tuple #[v, .int .i64 er]) ∧ RdSL w' w'.heap.size v q ∧ Below w.heap.size w w'
theorem rdsl_zero (w : World) : RdSL w w.heap.size (.agg #[.int .i64 0, .slice none 0 0]) Sg.noL := ⟨⟨_, rfl, ⟨none, 0, rfl, Nat.le_refl _, by omega, fun h => absurd h (by simp [Sg.noL])⟩⟩, fun s hs => by cases hs⟩
theorem RetListE.zero {w w' : World} {q : Sg.SList} {er a : Int} (hq : q = Sg.noL) (he : er = a) (hb : Below w.heap.size w w') : RetListE q er w (.returned (.tuple #[.agg #[.int .i64 0, .slice none 0 0], .int .i64 a])) w' := by
  subst hq; subst he
  exact ⟨_, rfl, rdsl_zero w', hb⟩
/-- the texts of tidied values are texts of the values -/
theorem Sg.tidied_text {L : List Sg.Value} {x : Sg.Value} (h : x ∈ Sg.tidiedV L) : ∃ y ∈ L, y.kind = x.kind ∧ y.text = x.text := by
  obtain ⟨h1, h2⟩ := Sg.tidied_canon L
  obtain ⟨y, hy, e1, e2, -⟩ := (h2 x.kind x.text x.lo).1 ⟨x, h, rfl, rfl, Int.le_refl _, h1.1 x h⟩
  exact ⟨y, hy, e1, e2⟩
theorem Sg.tidyS_fits {s : Sg.Sign} (h : Sg.Sign.fits s) : Sg.Sign.fits (Sg.tidyS s) := ⟨h.1, fun v hv => by
  obtain ⟨y, hy, -, e⟩ := Sg.tidied_text hv
  have := h.2 y hy
  unfold Sg.Value.fits at this ⊢
  rw [← e]; exact this⟩
end Go.Proofs.YtkmimjngmfdpmaaGreatDoor
