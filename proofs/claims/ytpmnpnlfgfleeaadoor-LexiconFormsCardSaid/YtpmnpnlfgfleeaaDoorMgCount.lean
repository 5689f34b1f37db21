/- lexicon.entry and Count. -/
import Derived.Test.YtpmnpnlfgfleeaaDoorMgForms
import Derived.Test.YtpmnpnlfgfleeaaDoorMgFormsPlain
import Derived.Test.YtpmnpnlfgfleeaaDoorMgCheck
namespace Go.Proofs.YtpmnpnlfgfleeaaDoor
open Go Go.RowKit
attribute [local go_sem] Oper.semAt_some

set_option maxRecDepth 100000 in
set_option maxHeartbeats 1000000 in
theorem entry_any (v : Value) (x : Lx.Lexicon) (n : Int) (w : World) (hr : RdL w w.heap.size v x) : Calls Tryd.prog 15 #[v, .int .i64 n] w (RetIB (Lx.entryV x n) w) := by
  have HCK : Hid (∀ (W : World), Below w.heap.size w W → Calls Tryd.prog 29 #[v] W (RetIB (Lx.checkV x) W)) := Lib.hid fun W hW => Check_any v x W ((hr.below hW).more hW.size)
  obtain ⟨⟨v0, v1, v2, rfl, ⟨A0, c0, rfl, hl0, hm0, -⟩, ⟨A1, c1, rfl, -⟩, ⟨A2, c2, rfl, -⟩⟩, -, -, -⟩ := hr
  have hle : (x.entries.length : Int) ≤ 9223372036854775807 := by omega
  clear hl0 hm0
  generalize hcv : Lx.checkV x = cv at HCK
  have HV := Lib.hid hcv
  clear hcv
  go_enter Tryd.func15, Tryd.ntmps15
  go_wp2_with fail
  refine (HCK.out _ ((Below.refl _ _).alloc (Nat.le_refl _) _)).mono ?_
  rintro e1 w1 ⟨rfl, hb1⟩
  have HX : Hid (w1.heap[w.heap.size]? = some (.cells #[.slice A0 x.entries.length c0, .slice A1 x.endings.length c1, .slice A2 x.clitics.length c2] 26 (0, 0))) := Lib.hid ((hb1.block _ (by simp)).trans (heap_alloc_new _ _))
  have x0 : w1.cell? ⟨w.heap.size, 0, none⟩ = some (.slice A0 x.entries.length c0) := by simp [World.cell?, HX.out]
  have HB1 := Lib.hid (((Below.refl w.heap.size w).alloc (Nat.le_refl _) _).trans (hb1.mono (by simp)))
  clear hb1
  by_cases hz : cv = 0
  · have hq : (cv == 0) = true := by simp [hz]
    have hq' : (cv != 0) = false := by simp [hz]
    have HZ := Lib.hid hz
    clear hz
    cases hso : Lx.withinB n 0 ((x.entries.length : Int) - 1)
    · have HF : Hid (Lx.entryV x n = 45) := Lib.hid (by unfold Lx.entryV; rw [HV.out, HZ.out, hso]; rfl)
      have HS := Lib.hid hso
      clear hso
      go_wp2_with fail
      refine (within_any _ _ _ _).mono ?_
      rw [HS.out]
      rintro e2 w2 ⟨rfl, rfl⟩
      go_wp2_with fail
      go_ret
      exact ⟨ret_int HF.out.symm, HB1.out⟩
    · have HF : Hid (Lx.entryV x n = 0) := Lib.hid (by unfold Lx.entryV; rw [HV.out, HZ.out, hso]; rfl)
      have HS := Lib.hid hso
      clear hso
      go_wp2_with fail
      refine (within_any _ _ _ _).mono ?_
      rw [HS.out]
      rintro e2 w2 ⟨rfl, rfl⟩
      go_wp2_with fail
      go_ret
      exact ⟨ret_int HF.out.symm, HB1.out⟩
  · have hq : (cv == 0) = false := by simp [hz]
    have hq' : (cv != 0) = true := by simp [hz]
    have HF : Hid (Lx.entryV x n = cv) := Lib.hid (by unfold Lx.entryV; rw [HV.out, if_pos hz])
    clear hz
    go_wp2_with fail
    go_ret
    exact ⟨ret_int HF.out.symm, HB1.out⟩

/-- a number and an error -/
def RetCN (a b : Int) (w : World) (e : Ending) (w' : World) : Prop := e = .returned (.tuple #[.int .i64 a, .int .i64 b]) ∧ Below w.heap.size w w'
theorem ret_cn {a b c d : Int} (h : a = b) (h' : c = d) : Ending.returned (.tuple #[.int .i64 a, .int .i64 c]) = .returned (.tuple #[.int .i64 b, .int .i64 d]) := by rw [h, h']
theorem cell_of_box {w : World} {b : Nat} {v : Value} {t : TypeId} {f : Nat × Nat} (h : w.heap[b]? = some (.cells #[v] t f)) : w.cell? ⟨b, 0, none⟩ = some v := by
  unfold World.cell?
  rw [show w.heap[(⟨b, 0, none⟩ : Addr).block]? = _ from h]
  rfl
theorem frozen_of_box {w : World} {b : Nat} {v : Value} {t : TypeId} (h : w.heap[b]? = some (.cells #[v] t (0, 0))) : w.frozen? ⟨b, 0, none⟩ = false := by
  unfold World.frozen?
  rw [show w.heap[(⟨b, 0, none⟩ : Addr).block]? = _ from h]
  simp
theorem set_box {w : World} {b : Nat} {v u : Value} {t : TypeId} {f : Nat × Nat} (h : w.heap[b]? = some (.cells #[v] t f)) : (w.setCell ⟨b, 0, none⟩ u).heap[b]? = some (.cells #[u] t f) := by
  simp [World.setCell, Array.getElem?_modify, h]

set_option maxRecDepth 100000 in
set_option maxHeartbeats 4000000 in
theorem Count_any (v : Value) (x : Lx.Lexicon) (n : Int) (w : World) (hr : RdL w w.heap.size v x) : Calls Tryd.prog 9 #[v, .int .i64 n] w (RetCN (Lx.countR x n) (Lx.entryV x n) w) := by
  have HEY : Hid (∀ (W : World), Below w.heap.size w W → Calls Tryd.prog 15 #[v, .int .i64 n] W (RetIB (Lx.entryV x n) W)) := Lib.hid fun W hW => entry_any v x n W ((hr.below hW).more hW.size)
  have HR := Lib.hid hr
  obtain ⟨⟨v0, v1, v2, rfl, h0, h1, h2⟩, -, -, -⟩ := hr
  have HR0 := Lib.hid h0
  have HR1 := Lib.hid h1
  obtain ⟨A0, c0, rfl, -⟩ := h0
  obtain ⟨A1, c1, rfl, -⟩ := h1
  obtain ⟨A2, c2, rfl, -⟩ := h2
  generalize hcv : Lx.entryV x n = cv at HEY
  have HV := Lib.hid hcv
  clear hcv
  refine (callsIn_wide (n := 9)).1 ?_
  refine callsIn_of_wp_marks Tryd.func9 rfl trivial ?_
  simp only [Tryd.ntmps9, List.size_toArray, List.length_cons, List.length_nil, Nat.reduceAdd, Nat.reduceSub, Array.replicate_succ, Array.replicate_zero, List.push_toArray, List.append_toArray, List.nil_append, List.cons_append]
  refine wpIn_wide.2 ?_
  go_wp2_with fail
  refine (HEY.out _ ((Below.refl _ _).alloc (Nat.le_refl _) _)).mono ?_
  rintro e1 w1 ⟨rfl, hb1⟩
  have hX1 : w1.heap[w.heap.size]? = some (.cells #[.slice A0 x.entries.length c0, .slice A1 x.endings.length c1, .slice A2 x.clitics.length c2] 26 (0, 0)) := (hb1.block _ (by simp)).trans (heap_alloc_new _ _)
  have x0 : w1.cell? ⟨w.heap.size, 0, none⟩ = some (.slice A0 x.entries.length c0) := by simp [World.cell?, hX1]
  have x1 : w1.cell? ⟨w.heap.size, 1, none⟩ = some (.slice A1 x.endings.length c1) := by simp [World.cell?, hX1]
  have x2 : w1.cell? ⟨w.heap.size, 2, none⟩ = some (.slice A2 x.clitics.length c2) := by simp [World.cell?, hX1]
  have HB1 := Lib.hid (((Below.refl w.heap.size w).alloc (Nat.le_refl _) _).trans (hb1.mono (by simp)))
  have hs1 : w.heap.size < w1.heap.size := by have := hb1.size; simp at this; omega
  clear hb1 hX1
  by_cases hz : cv = 0
  · have hq : (cv == 0) = true := by simp [hz]
    have hq' : (cv != 0) = false := by simp [hz]
    have hev : Lx.entryV x n = 0 := by rw [HV.out, hz]
    obtain ⟨hchk, i, rfl, hi⟩ := Lx.entry_good hev
    obtain ⟨t0, t1, t2⟩ := Lx.tooMany_no (Lx.check_parts hchk).1
    have HCR : Hid (Lx.countR x (i : Int) = ((Lx.formsV x i).length : Int)) := Lib.hid (by unfold Lx.countR; rw [if_pos hev]; simp)
    have hcnt := Lx.formsV_count x i (by omega) (by omega)
    obtain ⟨N, hN⟩ : ∃ N, N = (Lx.formsV x i).length := ⟨_, rfl⟩
    rw [← hN] at hcnt
    have HN := Lib.hid hN
    have HZ := Lib.hid hz
    clear hz hev hN hchk
    go_wp2_with fail
    have hs1' : w.heap.size < w1.heap.size + 1 := by omega
    refine (forms_any A0 A1 A2 x.entries.length c0 x.endings.length c1 x.clitics.length c2 (i : Int) _).mono ?_
    rintro e w3 ⟨rfl, hw3⟩
    have hb3 : Below w1.heap.size w1 w3 := by rw [hw3]; exact (((Below.refl _ _).alloc (Nat.le_refl _) _).alloc (by simp) _).alloc (by simp; omega) _
    have hs3 : w3.heap.size = w1.heap.size + 3 := by rw [hw3]; simp
    have hm3 : w3.heap[w1.heap.size]? = some (.cells #[.int .i64 0] 3 (0, 0)) := by
      rw [hw3]
      exact (Below.heap_alloc _ _ _ (by simp; omega)).trans ((Below.heap_alloc _ _ _ (by simp)).trans (heap_alloc_new _ _))
    have hfat : FormsAt w3 (w1.heap.size + 1) (w1.heap.size + 1 + 1) A0 A1 A2 c0 c1 c2 x i (fun b => b < w3.heap.size ∧ b ≠ w1.heap.size) := by
      have hk : ∀ b, b < w.heap.size → (b < w3.heap.size ∧ b ≠ w1.heap.size) ∧ w3.heap[b]? = w.heap[b]? := fun b hb => ⟨⟨by omega, by omega⟩, (hb3.block b (by omega)).trans (HB1.out.block b hb)⟩
      refine ⟨?_, ?_, ⟨by omega, by omega⟩, ⟨by omega, by omega⟩, (RdX.of HR0.out).keep hk, (RdX.of HR1.out).keep hk, fun b hb => hb.1⟩
      · rw [hw3]
        have := start_fst (w1.alloc (.cells #[.int .i64 0] 3)) (.cells #[.slice A0 x.entries.length c0, .slice A1 x.endings.length c1, .slice A2 x.clitics.length c2] 26) (.cells #[.int .i64 (i : Int)] 3)
        simpa using this
      · rw [hw3]
        have := start_res2 (w1.alloc (.cells #[.int .i64 0] 3)) (.cells #[.slice A0 x.entries.length c0, .slice A1 x.endings.length c1, .slice A2 x.clitics.length c2] 26) (.cells #[.int .i64 (i : Int)] 3)
        simpa using this
    have HGV := Lib.hid (forms_gives x i hi (by omega) (by omega) (by omega) w3 _ _ A0 A1 A2 c0 c1 c2 _ hfat)
    have HB3 := Lib.hid hb3
    have HM3 := Lib.hid hm3
    clear hw3 hfat hb3 hm3 x0 x1 x2
    rw [World.size_alloc]
    go_wp2_with fail
    refine (wpIn_wide (n := 9)).1 (wp_iter (T := fun b => b = w1.heap.size) (ok := fun b => b < w3.heap.size ∧ b ≠ w1.heap.size) (gf := 30) (lb := #[.pointer (some ⟨w1.heap.size + 1, 0, none⟩), .pointer (some ⟨w1.heap.size + 1 + 1, 0, none⟩)]) (E := EForm) rfl (enters_of Tryd.func30 (by kernel_rfl) rfl)
      HGV.out (fun l w args h => by obtain ⟨v, e, _⟩ := h; rw [e]; rfl) firm_form (fun b hb => hb.1) (fun b hb => ⟨fun h => h.2 hb, by omega⟩)
      (fun pre S' W' => W'.heap[w1.heap.size]? = some (.cells #[.int .i64 (pre.length : Int)] 3 (0, 0))) (fun _ _ _ _ => False) ?hI ?hIx HM3.out ?round ?done ?stop)
    case hI =>
      intro pre S' X Y h hs
      exact (hs.block _ (Array.getElem?_eq_some_iff.1 h).1 (.inl (by omega))).trans h
    case hIx => exact fun _ _ _ _ _ h _ => h
    case round =>
      intro m2 l2 pre S' f args W' hl hold hS' hsz hI hpre hE
      obtain ⟨vv, rfl, -⟩ := hE
      have hlen : pre.length < N := by
        have := hpre.length_le
        rw [List.length_append, List.length_singleton] at this
        rw [HN.out]
        omega
      obtain ⟨k, hk⟩ : ∃ k, k = pre.length := ⟨_, rfl⟩
      rw [← hk] at hlen
      have HK := Lib.hid hk
      have hkI : (k : Int) ≤ 208896 := by omega
      clear hold hS' hI hpre hk
      gi_wp2
      refine ⟨Stays.refl _ _, S', fun b hb => .inl hb, fun W3 hs3' hs3'' hI3 hE3 hold3 => ?_⟩
      rw [← HK.out] at hI3
      have HI3 := Lib.hid hI3
      have e0 := cell_of_box hI3
      have e1 := frozen_of_box hI3
      clear hs3' hs3'' hE3 hold3 hI3
      gi_wp2
      refine ⟨S', ⟨(Stays.setCell W3 _ _).mono fun b _ hx => hx.1, fun b hb => .inl hb⟩, ?_⟩
      show (W3.setCell ⟨w1.heap.size, 0, none⟩ (.int .i64 ((k : Int) + 1))).heap[w1.heap.size]? = some (.cells #[.int .i64 ((pre ++ [f]).length : Int)] 3 (0, 0))
      rw [List.length_append, List.length_singleton, ← HK.out]
      exact set_box HI3.out
    case done =>
      intro S' W' hold hS' hsz hI hD
      have HOLD := Lib.hid hold
      have HD := Lib.hid hD
      rw [← HN.out] at hI
      have e0 := cell_of_box hI
      clear hold hS' hI hD
      gi_wp2
      go_wp2_with fail
      refine leaves_marks [w3.heap.size] W' (by simp) (fun D hD' => by rw [List.mem_singleton.1 hD']; exact HD.out) (fun W5 hs5 => ⟨_, results_tmp2 rfl _ _ _, ?_⟩)
      show RetCN (Lx.countR x (i : Int)) cv w (.returned (.tuple #[.int .i64 (N : Int), .int .i64 0])) W5
      refine ⟨ret_cn (by rw [HCR.out, HN.out]) HZ.out.symm, ?_⟩
      refine (HB1.out.trans (HB3.out.mono (by omega))).trans ((HOLD.out.below (by omega) fun b hb => ?_).trans (hs5.below (by omega) fun b hb => ?_))
      · show ¬ b = _; omega
      · show ¬ b ∈ [w3.heap.size]
        rw [List.mem_singleton]
        omega
    case stop => exact fun _ _ _ _ _ _ _ _ h _ => h.elim
  · have hq : (cv == 0) = false := by simp [hz]
    have hq' : (cv != 0) = true := by simp [hz]
    have HF : Hid (Lx.countR x n = 0) := Lib.hid (by unfold Lx.countR; rw [HV.out, if_neg hz])
    clear hz
    go_wp2_with fail
    refine ⟨_, results_tmp2 rfl _ _ _, ?_⟩
    show RetCN (Lx.countR x n) cv w (.returned (.tuple #[.int .i64 0, .int .i64 cv])) w1
    exact ⟨ret_cn HF.out.symm rfl, HB1.out⟩
end Go.Proofs.YtpmnpnlfgfleeaaDoor
