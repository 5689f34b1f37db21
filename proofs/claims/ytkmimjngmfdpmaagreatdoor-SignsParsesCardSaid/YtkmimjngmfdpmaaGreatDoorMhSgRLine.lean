/- ostraconref01.line. Made by gen_rline.py. -/
import Derived.Test.YtkmimjngmfdpmaaGreatDoorMhSgRVal
import Derived.Test.YtkmimjngmfdpmaaGreatDoorMgSgSign
namespace Go.Proofs.YtkmimjngmfdpmaaGreatDoor
open Go Go.RowKit

theorem Sg.mark_facts (l : List ByteArray) (s0 s1 : ByteArray) (rest : List ByteArray) (hl : l = s0 :: s1 :: rest) : ∃ (o : Nat) (U : List (List UInt8)), o ≤ 1 ∧ U.length + 2 + o = l.length ∧ (∀ k s, l[k]? = some s → 2 + o ≤ k → U[k - 2 - o]? = some s.data.toList) ∧
    (o = 1 → ∃ s, l[2]? = some s ∧ s.data.toList = [61]) ∧ (o = 0 → ∀ s, l[2]? = some s → s.data.toList ≠ [61]) ∧ Sg.unmarked (rest.map (·.data.toList)) = U ∧ Sg.marked (rest.map (·.data.toList)) = decide (o = 1) := by
  subst hl
  rcases rest with _ | ⟨x, r⟩
  · exact ⟨0, [], by omega, rfl, fun k s h hk => by
      obtain ⟨j, rfl⟩ : ∃ j, k = j + 2 := ⟨k - 2, by omega⟩
      simp at h, fun h => absurd h (by decide), fun _ s h => by simp at h, rfl, rfl⟩
  · by_cases hx : x.data.toList = [61]
    · refine ⟨1, r.map (·.data.toList), by omega, by simp, fun k s h hk => ?_, fun _ => ⟨x, rfl, hx⟩, fun h => absurd h (by decide), ?_, ?_⟩
      · obtain ⟨j, rfl⟩ : ∃ j, k = j + 3 := ⟨k - 3, by omega⟩
        rw [show j + 3 - 2 - 1 = j by omega, List.getElem?_map]
        have : r[j]? = some s := by simpa using h
        rw [this]; rfl
      · simp [Sg.unmarked, Sg.marked, hx]
      · simp [Sg.marked, hx]
    · refine ⟨0, (x :: r).map (·.data.toList), by omega, by simp, fun k s h hk => ?_, fun h => absurd h (by decide), fun _ s h => ?_, ?_, ?_⟩
      · obtain ⟨j, rfl⟩ : ∃ j, k = j + 2 := ⟨k - 2, by omega⟩
        rw [show j + 2 - 2 - 0 = j by omega, List.getElem?_map]
        have : (x :: r)[j]? = some s := by simpa using h
        rw [this]; rfl
      · have : x = s := by simpa using h
        rw [← this]; exact hx
      · simp [Sg.unmarked, Sg.marked, hx]
      · simp [Sg.marked, hx]
set_option maxRecDepth 100000 in
set_option maxHeartbeats 8000000 in
theorem r1line_any (t : ByteArray) (w : World) (ht : t.size ≤ 1000000) : Calls Tryz.prog 64 #[.string t] w (RetSign (Sg.signL (Lib.split t.data.toList [32])) w) := by
  have HSPL := Lib.hid fun (W : World) => r1Split_any t 32 W ht
  obtain ⟨ws, hws⟩ : ∃ ws, ws = Lib.split t.data.toList [32] := ⟨_, rfl⟩
  have hne : ws ≠ [] := by rw [hws, Lx.pst_split]; simp
  have HW1 : Hid (∀ x ∈ ws, x.length ≤ 1000000) := Lib.hid fun x hx => by
    rw [hws] at hx
    have h1 := Sg.split_leG hx
    have h2 : t.data.toList.length = t.size := rfl
    omega
  have hwl : ws.length ≤ 1000001 := by
    rw [hws, Lx.pst_split, List.length_append, List.length_singleton]
    have h2 := Lx.pst_count 32 t.data.toList
    have h3 : t.data.toList.length = t.size := rfl
    omega
  rw [← hws] at HSPL ⊢
  clear hws
  have HB0 : Hid (Below w.heap.size w (w.alloc (.cells #[.string ⟨#[]⟩, .int .i64 0, .int .i64 0, .bool false, .slice none 0 0] 67))) := Lib.hid ((Below.refl _ _).alloc (Nat.le_refl _) _)
  go_enter Tryz.func64, Tryz.ntmps64
  go_wp2_with fail
  refine (HSPL.out _).mono ?_
  rintro e w1 ⟨v, l, rfl, hown, hq, hbel⟩
  have hRD := rds_of_own len_str hown
  clear hown
  have hl1 : l.length = ws.length := by rw [← hq, List.length_map]
  have hpos : 0 < l.length := by rw [hl1]; exact List.length_pos_iff.2 hne
  have HB1 := Lib.hid (HB0.out.trans (hbel.mono HB0.out.size))
  have hr1 : w1.heap[w.heap.size]? = some (.cells #[.string ⟨#[]⟩, .int .i64 0, .int .i64 0, .bool false, .slice none 0 0] 67 (0, 0)) := (hbel.block _ (by simp)).trans (heap_alloc_new _ _)
  have HR1 := Lib.hid hr1
  have hs1 : w.heap.size < w1.heap.size := (Array.getElem?_eq_some_iff.1 hr1).1
  have HQ := Lib.hid hq
  have HRD := Lib.hid hRD
  obtain ⟨A, c, rfl, hlc, hc63, hh⟩ := hRD
  obtain ⟨b, off, rfl, hb, hcell⟩ := hh hpos
  have HC := Lib.hid fun (k : Nat) (s : ByteArray) (h : l[k]? = some s) => (by have := hcell k s h 0 (.string s) rfl; simpa using this : w1.cell? ⟨b, off + k, none⟩ = some (.string s))
  have HSZ : Hid (∀ s ∈ l, s.size ≤ 1000000) := Lib.hid fun s hs => HW1.out _ (by rw [← HQ.out]; exact List.mem_map_of_mem hs)
  have r0 : w1.cell? ⟨w.heap.size, 0, none⟩ = some (.string ⟨#[]⟩) := by simp [World.cell?, hr1]
  have r1 : w1.cell? ⟨w.heap.size, 1, none⟩ = some (.int .i64 0) := by simp [World.cell?, hr1]
  have r2 : w1.cell? ⟨w.heap.size, 2, none⟩ = some (.int .i64 0) := by simp [World.cell?, hr1]
  have r3 : w1.cell? ⟨w.heap.size, 3, none⟩ = some (.bool false) := by simp [World.cell?, hr1]
  have r4 : w1.cell? ⟨w.heap.size, 4, none⟩ = some (.slice none 0 0) := by simp [World.cell?, hr1]
  have y0 : w1.frozen? ⟨w.heap.size, 0, none⟩ = false := by simp [World.frozen?, hr1]
  have y1 : w1.frozen? ⟨w.heap.size, 1, none⟩ = false := by simp [World.frozen?, hr1]
  have y2 : w1.frozen? ⟨w.heap.size, 2, none⟩ = false := by simp [World.frozen?, hr1]
  have y3 : w1.frozen? ⟨w.heap.size, 3, none⟩ = false := by simp [World.frozen?, hr1]
  have y4 : w1.frozen? ⟨w.heap.size, 4, none⟩ = false := by simp [World.frozen?, hr1]
  clear hbel hq hh hcell hr1 hne HW1 HSPL
  by_cases h2 : l.length < 2
  · have HN : Hid (Sg.signL ws = none) := Lib.hid (Sg.signL_short (by omega))
    have h2I : (l.length : Int) < 2 := by omega
    clear h2 hl1
    go_wp2_with fail
    refine bodyPost_ret (v := .tuple #[.agg #[.string ⟨#[]⟩, .int .i64 0, .int .i64 0, .bool false, .slice none 0 0], .bool false]) (by simp [results, Tryz.results64, go_sem, r0, r1, r2, r3, r4]) rfl ?_
    exact RetSign.no HN.out (((((HB1.out.setCell (Nat.le_refl _) _).setCell (Nat.le_refl _) _).setCell (Nat.le_refl _) _).setCell (Nat.le_refl _) _).setCell (Nat.le_refl _) _) _ _ _ _ _ _ _
  have HL1 := Lib.hid hl1
  have h2I : ¬ (l.length : Int) < 2 := by omega
  obtain ⟨s0, s1, rest, hl⟩ : ∃ s0 s1 rest, l = s0 :: s1 :: rest := by
    match l, h2 with
    | [], h => exact absurd (by simp) h
    | [_], h => exact absurd (by simp) h
    | a :: b :: r, _ => exact ⟨a, b, r, rfl⟩
  have hlen : l.length = rest.length + 2 := by rw [hl]; rfl
  have hrn : rest.length ≤ 1000001 := by omega
  clear hl1
  have hc0 := by simpa using HC.out 0 s0 (by rw [hl]; rfl)
  have HC1 := Lib.hid (HC.out 1 s1 (by rw [hl]; rfl))
  have HCL := Lib.hid fun (k : Nat) (s : ByteArray) (h : l[k]? = some s) => HC.out k s h
  have HLS : Hid (l = s0 :: s1 :: rest) := Lib.hid hl
  have HSZL := HSZ
  have HCR : Hid (∀ (k : Nat) (s : ByteArray), rest[k]? = some s → w1.cell? ⟨b, off + (k + 2), none⟩ = some (.string s)) := Lib.hid fun k s h => HC.out (k + 2) s (by rw [hl]; simpa using h)
  have HZ0 := Lib.hid (HSZ.out s0 (by rw [hl]; simp))
  have HZ1 := Lib.hid (HSZ.out s1 (by rw [hl]; simp))
  have HZR : Hid (∀ s ∈ rest, s.size ≤ 1000000) := Lib.hid fun s hs => HSZ.out s (by rw [hl]; simp [hs])
  have HWS : Hid (ws = s0.data.toList :: s1.data.toList :: rest.map (·.data.toList)) := Lib.hid (by rw [← HQ.out, hl]; rfl)
  have HFR : Hid (∀ W, Calls Tryz.prog 98 #[.string s0] W (RetBB (Sg.looseB s0.data.toList) W)) := Lib.hid fun W => (r1Loose_any s0 W HZ0.out).mono fun e w' q => ⟨q.1, by rw [q.2]; exact Below.refl _ _⟩
  obtain ⟨lo, hlo⟩ : ∃ lo, lo = Sg.looseB s0.data.toList := ⟨_, rfl⟩
  rw [← hlo] at HFR
  have HLO := Lib.hid hlo
  have h0I : (0 : Int) < (l.length : Int) := by omega
  clear hl h2 HC HSZ HQ HRD hlo HL1
  cases lo
  · have HN : Hid (Sg.signL ws = none) := Lib.hid (by rw [HWS.out]; exact Sg.signL_loose HLO.out.symm)
    go_wp2_with fail
    refine (HFR.out _).mono ?_
    rintro e w2 ⟨rfl, hb2⟩
    have HB2 := Lib.hid (HB1.out.trans (hb2.mono HB1.out.size))
    have hr2 := (hb2.block _ hs1).trans HR1.out
    clear hb2 r0 r1 r2 r3 r4 y0 y1 y2 y3 y4
    have r0 : w2.cell? ⟨w.heap.size, 0, none⟩ = some (.string ⟨#[]⟩) := by simp [World.cell?, hr2]
    have r1 : w2.cell? ⟨w.heap.size, 1, none⟩ = some (.int .i64 0) := by simp [World.cell?, hr2]
    have r2 : w2.cell? ⟨w.heap.size, 2, none⟩ = some (.int .i64 0) := by simp [World.cell?, hr2]
    have r3 : w2.cell? ⟨w.heap.size, 3, none⟩ = some (.bool false) := by simp [World.cell?, hr2]
    have r4 : w2.cell? ⟨w.heap.size, 4, none⟩ = some (.slice none 0 0) := by simp [World.cell?, hr2]
    have y0 : w2.frozen? ⟨w.heap.size, 0, none⟩ = false := by simp [World.frozen?, hr2]
    have y1 : w2.frozen? ⟨w.heap.size, 1, none⟩ = false := by simp [World.frozen?, hr2]
    have y2 : w2.frozen? ⟨w.heap.size, 2, none⟩ = false := by simp [World.frozen?, hr2]
    have y3 : w2.frozen? ⟨w.heap.size, 3, none⟩ = false := by simp [World.frozen?, hr2]
    have y4 : w2.frozen? ⟨w.heap.size, 4, none⟩ = false := by simp [World.frozen?, hr2]
    clear hr2
    go_wp2_with fail
    refine bodyPost_ret (v := .tuple #[.agg #[.string ⟨#[]⟩, .int .i64 0, .int .i64 0, .bool false, .slice none 0 0], .bool false]) (by simp [results, Tryz.results64, go_sem, r0, r1, r2, r3, r4]) rfl ?_
    exact RetSign.no HN.out (((((HB2.out.setCell (Nat.le_refl _) _).setCell (Nat.le_refl _) _).setCell (Nat.le_refl _) _).setCell (Nat.le_refl _) _).setCell (Nat.le_refl _) _) _ _ _ _ _ _ _
  go_wp2_with fail
  refine (HFR.out _).mono ?_
  rintro e w2 ⟨rfl, hb2⟩
  have HB2 := Lib.hid (HB1.out.trans (hb2.mono HB1.out.size))
  have HR2 := Lib.hid ((hb2.block _ hs1).trans HR1.out)
  have hs2 := Nat.lt_of_lt_of_le hs1 hb2.size
  have hc0' := (hb2.cell (p := ⟨b, off, none⟩) hb).trans hc0
  have HC1 := Lib.hid ((hb2.cell (p := ⟨b, off + 1, none⟩) hb).trans HC1.out)
  have HCL2 := Lib.hid fun (k : Nat) (s : ByteArray) (h : l[k]? = some s) => (hb2.cell (p := ⟨b, off + k, none⟩) hb).trans (HCL.out k s h)
  have HCR2 : Hid (∀ (k : Nat) (s : ByteArray), rest[k]? = some s → w2.cell? ⟨b, off + (k + 2), none⟩ = some (.string s)) := Lib.hid fun k s h => (hb2.cell (p := ⟨b, off + (k + 2), none⟩) hb).trans (HCR.out k s h)
  have hb' : b < w2.heap.size := Nat.lt_of_lt_of_le hb hb2.size
  clear hb2 hc0 hb r0 r1 r2 r3 r4 y0 y1 y2 y3 y4
  -- the variable of the sign
  obtain ⟨w3, hw3⟩ : ∃ w3, w3 = w2.alloc (.cells #[.string s0, .int .i64 0, .int .i64 0, .bool false, .slice none 0 0] 67) := ⟨_, rfl⟩
  have hb3 : Below w2.heap.size w2 w3 := by rw [hw3]; exact (Below.refl _ _).alloc (Nat.le_refl _) _
  have hx3 : w3.heap[w2.heap.size]? = some (.cells #[.string s0, .int .i64 0, .int .i64 0, .bool false, .slice none 0 0] 67 (0, 0)) := by rw [hw3]; exact heap_alloc_new _ _
  have hs3 : w2.heap.size < w3.heap.size := by rw [hw3]; simp
  have HB3 := Lib.hid (HB2.out.trans (hb3.mono HB2.out.size))
  have HX3 := Lib.hid hx3
  have H23 := Lib.hid hb3
  have HR3 := Lib.hid ((hb3.block _ hs2).trans HR2.out)
  have hc1 := (hb3.cell (p := ⟨b, off + 1, none⟩) hb').trans HC1.out
  have HTW := Lib.hid (r1two_any s1 120 w3 HZ1.out)
  obtain ⟨htw1, htw2⟩ := Sg.twoR_eq s1.data.toList 120
  obtain ⟨⟨a1, b1, is⟩, hq3⟩ : ∃ q, q = Sg.twoR s1.data.toList 120 := ⟨_, rfl⟩
  rw [← hq3] at HTW htw1 htw2
  simp only at htw1 htw2
  have HT1 := Lib.hid htw1
  have HT2 := Lib.hid htw2
  have HW3 := Lib.hid hw3
  have h1I : (1 : Int) < (l.length : Int) := by omega
  have hwb : w.heap.size < w2.heap.size := hs2
  clear hw3 hb3 hx3 hq3 htw1 htw2
  go_upto_region 5 with fail
  rw [← HW3.out]
  go_wp2_with fail
  refine HTW.out.mono ?_
  rintro e w4 ⟨rfl, hb4⟩
  have HB4 := Lib.hid (HB3.out.trans (hb4.mono HB3.out.size))
  have hr4 := (hb4.block _ (by omega)).trans HR3.out
  have H24 := Lib.hid (H23.out.trans (hb4.mono (by omega)))
  have hx4 := (hb4.block _ hs3).trans HX3.out
  have hs4 := Nat.lt_of_lt_of_le hs3 hb4.size
  clear hb4 hc0' hc1 HC1
  have r0 : w4.cell? ⟨w.heap.size, 0, none⟩ = some (.string ⟨#[]⟩) := by simp [World.cell?, hr4]
  have r1 : w4.cell? ⟨w.heap.size, 1, none⟩ = some (.int .i64 0) := by simp [World.cell?, hr4]
  have r2 : w4.cell? ⟨w.heap.size, 2, none⟩ = some (.int .i64 0) := by simp [World.cell?, hr4]
  have r3 : w4.cell? ⟨w.heap.size, 3, none⟩ = some (.bool false) := by simp [World.cell?, hr4]
  have r4 : w4.cell? ⟨w.heap.size, 4, none⟩ = some (.slice none 0 0) := by simp [World.cell?, hr4]
  have y0 : w4.frozen? ⟨w.heap.size, 0, none⟩ = false := by simp [World.frozen?, hr4]
  have y1 : w4.frozen? ⟨w.heap.size, 1, none⟩ = false := by simp [World.frozen?, hr4]
  have y2 : w4.frozen? ⟨w.heap.size, 2, none⟩ = false := by simp [World.frozen?, hr4]
  have y3 : w4.frozen? ⟨w.heap.size, 3, none⟩ = false := by simp [World.frozen?, hr4]
  have y4 : w4.frozen? ⟨w.heap.size, 4, none⟩ = false := by simp [World.frozen?, hr4]
  have x0 : w4.cell? ⟨w2.heap.size, 0, none⟩ = some (.string s0) := by simp [World.cell?, hx4]
  have x1 : w4.cell? ⟨w2.heap.size, 1, none⟩ = some (.int .i64 0) := by simp [World.cell?, hx4]
  have x2 : w4.cell? ⟨w2.heap.size, 2, none⟩ = some (.int .i64 0) := by simp [World.cell?, hx4]
  have x3 : w4.cell? ⟨w2.heap.size, 3, none⟩ = some (.bool false) := by simp [World.cell?, hx4]
  have x4 : w4.cell? ⟨w2.heap.size, 4, none⟩ = some (.slice none 0 0) := by simp [World.cell?, hx4]
  have z0 : w4.frozen? ⟨w2.heap.size, 0, none⟩ = false := by simp [World.frozen?, hx4]
  have z1 : w4.frozen? ⟨w2.heap.size, 1, none⟩ = false := by simp [World.frozen?, hx4]
  have z2 : w4.frozen? ⟨w2.heap.size, 2, none⟩ = false := by simp [World.frozen?, hx4]
  have z3 : w4.frozen? ⟨w2.heap.size, 3, none⟩ = false := by simp [World.frozen?, hx4]
  have z4 : w4.frozen? ⟨w2.heap.size, 4, none⟩ = false := by simp [World.frozen?, hx4]
  have HR4 := Lib.hid hr4
  have HX4 := Lib.hid hx4
  clear hr4 hx4
  cases is
  · have HN : Hid (Sg.signL ws = none) := Lib.hid (by
      rw [HWS.out]
      refine Sg.signL_two ?_
      have := HT1.out
      cases hz : Sg.twoV s1.data.toList 120 with
      | none => rfl
      | some q => rw [hz] at this; cases this)
    go_wp2_with fail
    refine bodyPost_ret (v := .tuple #[.agg #[.string ⟨#[]⟩, .int .i64 0, .int .i64 0, .bool false, .slice none 0 0], .bool false]) (by simp [results, Tryz.results64, go_sem, r0, r1, r2, r3, r4]) rfl ?_
    exact RetSign.no HN.out (((((HB4.out.setCell (Nat.le_refl _) _).setCell (Nat.le_refl _) _).setCell (Nat.le_refl _) _).setCell (Nat.le_refl _) _).setCell (Nat.le_refl _) _) _ _ _ _ _ _ _
  have HTV : Hid (Sg.twoV s1.data.toList 120 = some (a1, b1)) := Lib.hid (by
    have h1 := HT1.out
    cases hz : Sg.twoV s1.data.toList 120 with
    | none => rw [hz] at h1; cases h1
    | some q => rw [HT2.out q hz])
  clear HT1 HT2
  obtain ⟨w5, hw5⟩ : ∃ w5, w5 = (w4.setCell ⟨w2.heap.size, 1, none⟩ (.int .i64 a1)).setCell ⟨w2.heap.size, 2, none⟩ (.int .i64 b1) := ⟨_, rfl⟩
  have hx5 : w5.heap[w2.heap.size]? = some (.cells #[.string s0, .int .i64 a1, .int .i64 b1, .bool false, .slice none 0 0] 67 (0, 0)) := by rw [hw5]; exact gset (gset HX4.out _) _
  have hb5 : Below w2.heap.size w2 w5 := by
    rw [hw5]
    exact ((H24.out).setCell (Nat.le_refl _) _).setCell (Nat.le_refl _) _
  have HW5 := Lib.hid hw5
  have HB5 := Lib.hid hb5
  have HX5 := Lib.hid hx5
  clear hw5 hb5 hx5
  go_upto_region 10 with fail
  rw [← HW5.out]
  clear r0 r1 r2 r3 r4 y0 y1 y2 y3 y4 x0 x1 x2 x3 x4 z0 z1 z2 z3 z4
  have hsz5 : w2.heap.size < w5.heap.size := (Array.getElem?_eq_some_iff.1 HX5.out).1
  obtain ⟨o, U, ho1, hUl, hU1, hU3, hU4, hU5, hU6⟩ := Sg.mark_facts l s0 s1 rest HLS.out
  have HU1 := Lib.hid hU1
  have HU3 := Lib.hid hU3
  have HU4 := Lib.hid hU4
  have HSGN : Hid (∀ vs, Sg.valsB U = true → Sg.valsOf U = vs → Sg.signL ws = some ⟨s0, a1, b1, decide (o = 1), vs⟩) := Lib.hid fun vs h1 h2 => by
    rw [HWS.out, Sg.signL_some HLO.out.symm HTV.out (by rw [hU5]; exact h1), hU6, hU5, h2]; rfl
  have HSB : Hid (∀ (k : Nat) (u : List UInt8), U[k]? = some u → Sg.valV u = none → Sg.signL ws = none) := Lib.hid fun k u h hv => by
    rw [HWS.out]
    exact Sg.signL_vals (by rw [hU5]; exact Sg.valsB_not h hv)
  have HCW : Hid (∀ (k : Nat) (s : ByteArray) (W : World), l[k]? = some s → Below w2.heap.size w2 W → W.cell? ⟨b, off + k, none⟩ = some (.string s)) := Lib.hid fun k s W h hW => (hW.cell (p := ⟨b, off + k, none⟩) hb').trans (HCL2.out k s h)
  have hln : l.length ≤ 1000003 := by omega
  have HULE := Lib.hid hUl
  obtain ⟨n, hn⟩ : ∃ n, n = rest.length + 2 := ⟨_, rfl⟩
  have HNL : Hid (n = l.length) := Lib.hid (by omega)
  have hn2 : 2 ≤ n := by omega
  have hn3 : n ≤ 1000003 := by omega
  obtain ⟨i1, hi1, hz1, hs1', hb1⟩ := info_parts info_Value
  rw [← hn]
  clear hU1 hU3 hU4 hU5 hU6 hUl hn hln hlen hrn h2I h0I h1I
  go_wp2_with fail
  go_loopg [9] (n - 2) (fun g i wr => ∃ (k : Nat) (vv : Value) (vs : List Sg.Value) (ev : Bool), 2 ≤ k ∧ k ≤ n ∧ g = n - k ∧ i = .int .i64 k ∧ Below w2.heap.size w2 wr ∧ wr.heap[w2.heap.size]? = some (.cells #[.string s0, .int .i64 a1, .int .i64 b1, .bool ev, vv] 67 (0, 0)) ∧ wr.ownsRow (w2.heap.size + 1) 60 4 vv vs.length (vs.flatMap encValue) ∧ vs = Sg.valsOf (U.take (k - 2 - o)) ∧ ev = (decide (o = 1) && decide (2 < k)) ∧ ∀ j u, j < k - 2 - o → U[j]? = some u → (Sg.valV u).isSome = true)
  case atStart => exact ⟨2, .slice none 0 0, [], false, by omega, hn2, rfl, rfl, HB5.out, HX5.out, World.ownsRow_nil _ _ _ _, by rw [show 2 - 2 - o = 0 by omega]; rfl, by simp, fun j s hj => by omega⟩
  case round =>
    obtain ⟨k, vv, vs, ev, hk2, hk, rfl, rfl, hbel, hx, hown, hvs, hev, hall⟩ := hrel
    obtain ⟨Av, cv, rfl⟩ := own_form hown
    have HBK := Lib.hid hbel
    have HXK := Lib.hid hx
    have HOK := Lib.hid hown
    have HVS := Lib.hid hvs
    have HEV := Lib.hid hev
    have HALL := Lib.hid hall
    have hszk : w2.heap.size < wr.heap.size := (Array.getElem?_eq_some_iff.1 hx).1
    have HBW : Hid (Below w.heap.size w wr) := Lib.hid (HB2.out.trans (hbel.mono (by omega)))
    have hvk : vs.length ≤ k := by rw [hvs]; exact Nat.le_trans (Sg.valsOf_len _ _) (by omega)
    clear hbel hx hown hvs hall hev
    by_cases hlt : k < n
    · obtain ⟨s, hs⟩ : ∃ s, l[k]? = some s := ⟨_, List.getElem?_eq_getElem (by have := HNL.out; omega)⟩
      have f0 := HCW.out k s wr hs HBK.out
      have hz := HSZL.out s (List.mem_of_getElem? hs)
      have HS := Lib.hid hs
      have hkI : (0 : Int) ≤ (k : Int) := by omega
      have hkJ : (k : Int) < (n : Int) := by omega
      clear hs
      by_cases hA : k = 2 ∧ o = 1
      · obtain ⟨hA1, hA2⟩ := hA
        have hxe : s.toList = [61] := by
          obtain ⟨s', h1, h2⟩ := HU3.out hA2
          have h3 := HS.out
          rw [hA1, h1] at h3
          cases h3
          rw [Lib.toList_data]; exact h2
        have hkE : ((k : Int) == 2) = true := by rw [beq_iff_eq]; omega
        have f3 : wr.cell? ⟨w2.heap.size, 3, none⟩ = some (.bool ev) := by simp [World.cell?, HXK.out]
        have g3 : wr.frozen? ⟨w2.heap.size, 3, none⟩ = false := by simp [World.frozen?, HXK.out]
        have HX9 := Lib.hid (gset (i := 3) HXK.out (.bool true))
        have HO9 := Lib.hid (ownsRow_setCell_below HOK.out (a := ⟨w2.heap.size, 3, none⟩) (by show w2.heap.size < _; omega) (.bool true))
        have HB9 := Lib.hid (HBK.out.setCell (p := ⟨w2.heap.size, 3, none⟩) (Nat.le_refl _) (.bool true))
        have HE9 : Hid (true = (decide (o = 1) && decide (2 < k + 1))) := Lib.hid (by rw [hA2, hA1]; rfl)
        have HV9 : Hid (vs = Sg.valsOf (U.take (k + 1 - 2 - o))) := Lib.hid (by rw [HVS.out, show k + 1 - 2 - o = k - 2 - o by omega])
        have HL9 : Hid (∀ j u, j < k + 1 - 2 - o → U[j]? = some u → (Sg.valV u).isSome = true) := Lib.hid fun j u hj => by omega
        clear hA1 hA2 hz
        go_wp2_with fail
        go_roundg (n - (k + 1))
        case measure => omega
        case rel => exact ⟨k + 1, .slice Av vs.length cv, vs, true, by omega, by omega, rfl, by go_num, HB9.out, HX9.out, HO9.out, HV9.out, HE9.out, HL9.out⟩
      have hok : 2 + o ≤ k := by
        rcases Nat.lt_or_ge k (2 + o) with h | h
        · exact absurd ⟨by omega, by omega⟩ hA
        · exact h
      have HUK := Lib.hid (HU1.out k s HS.out hok)
      have HEV2 : Hid (ev = (decide (o = 1) && decide (2 < k + 1))) := Lib.hid (by
        rw [HEV.out]
        rcases Nat.lt_or_ge 2 k with h | h
        · rw [decide_eq_true h, decide_eq_true (show 2 < k + 1 by omega)]
        · rw [decide_eq_false (show ¬ o = 1 by omega)]; rfl)
      have hcond : ((k : Int) == 2) = false ∨ (((k : Int) == 2) = true ∧ (s.toList == [61]) = false) := by
        by_cases h : k = 2
        · refine .inr ⟨by rw [beq_iff_eq]; omega, ?_⟩
          rw [beq_eq_false_iff_ne, Lib.toList_data]
          have h3 := HS.out
          rw [h] at h3
          exact HU4.out (by omega) s h3
        · exact .inl (by rw [beq_eq_false_iff_ne]; omega)
      have HVC := Lib.hid (r1value_any s wr hz)
      obtain ⟨q, hq⟩ : ∃ q, q = Sg.valV s.data.toList := ⟨_, rfl⟩
      rw [← hq] at HVC
      have HQ := Lib.hid hq
      clear hz hq hA
      rcases hcond with hc | ⟨hc, hc'⟩
      all_goals
        go_wp2_with fail
        refine HVC.out.mono ?_
        rintro e wv ⟨zk, zt, za, zb, rfl, hz, hbv⟩
        have HZ := Lib.hid hz
        have hszv := hbv.size
        obtain ⟨wS, hwS⟩ : ∃ wS, wS = wv.alloc (.cells #[.int .i64 zk, .string zt, .int .i64 za, .int .i64 zb] 60) := ⟨_, rfl⟩
        have hbS : Below wv.heap.size wv wS := by rw [hwS]; exact (Below.refl _ _).alloc (Nat.le_refl _) _
        have hvb : wS.heap[wv.heap.size]? = some (.cells #[.int .i64 zk, .string zt, .int .i64 za, .int .i64 zb] 60 (0, 0)) := by rw [hwS]; exact heap_alloc_new _ _
        have hszS : wv.heap.size < wS.heap.size := by rw [hwS]; simp
        have hbkS : Below wr.heap.size wr wS := hbv.trans (hbS.mono hszv)
        have HBKS := Lib.hid hbkS
        have hxS := (hbkS.block _ hszk).trans HXK.out
        have hrS := (hbkS.block w.heap.size (by omega)).trans ((HBK.out.block _ hwb).trans HR2.out)
        have HB2S : Hid (Below w2.heap.size w2 wS) := Lib.hid (HBK.out.trans (hbkS.mono (by omega)))
        have HBWS : Hid (Below w.heap.size w wS) := Lib.hid (HBW.out.trans (hbkS.mono (by omega)))
        have HWS2 := Lib.hid hwS
        have HXS := Lib.hid hxS
        clear hz hwS
        go_upto_region 16 with fail
        rw [← HWS2.out]
        clear f0 hbv hbS hbkS
        rcases q with _ | vz
        · have HN := Lib.hid (HSB.out _ _ HUK.out HQ.out.symm)
          have r0 : wS.cell? ⟨w.heap.size, 0, none⟩ = some (.string ⟨#[]⟩) := by simp [World.cell?, hrS]
          have r1 : wS.cell? ⟨w.heap.size, 1, none⟩ = some (.int .i64 0) := by simp [World.cell?, hrS]
          have r2 : wS.cell? ⟨w.heap.size, 2, none⟩ = some (.int .i64 0) := by simp [World.cell?, hrS]
          have r3 : wS.cell? ⟨w.heap.size, 3, none⟩ = some (.bool false) := by simp [World.cell?, hrS]
          have r4 : wS.cell? ⟨w.heap.size, 4, none⟩ = some (.slice none 0 0) := by simp [World.cell?, hrS]
          have y0 : wS.frozen? ⟨w.heap.size, 0, none⟩ = false := by simp [World.frozen?, hrS]
          have y1 : wS.frozen? ⟨w.heap.size, 1, none⟩ = false := by simp [World.frozen?, hrS]
          have y2 : wS.frozen? ⟨w.heap.size, 2, none⟩ = false := by simp [World.frozen?, hrS]
          have y3 : wS.frozen? ⟨w.heap.size, 3, none⟩ = false := by simp [World.frozen?, hrS]
          have y4 : wS.frozen? ⟨w.heap.size, 4, none⟩ = false := by simp [World.frozen?, hrS]
          clear hrS hxS hvb
          go_wp2_with fail
          refine bodyPost_ret (v := .tuple #[.agg #[.string ⟨#[]⟩, .int .i64 0, .int .i64 0, .bool false, .slice none 0 0], .bool false]) (by simp [results, Tryz.results64, go_sem, r0, r1, r2, r3, r4]) rfl ?_
          exact RetSign.no HN.out (((((HBWS.out.setCell (Nat.le_refl _) _).setCell (Nat.le_refl _) _).setCell (Nat.le_refl _) _).setCell (Nat.le_refl _) _).setCell (Nat.le_refl _) _) _ _ _ _ _ _ _
        · have hzz : vz.value = ⟨zk, zt, za, zb⟩ := HZ.out _ rfl
          have HNX : Hid (Sg.valsOf (U.take (k + 1 - 2 - o)) = vs ++ [(⟨zk, zt, za, zb⟩ : Sg.Value)]) := Lib.hid (by
            rw [show k + 1 - 2 - o = k - 2 - o + 1 by omega, Sg.valsOf_next HUK.out HQ.out.symm, ← HVS.out, hzz])
          have x4a : wS.cell? ⟨w2.heap.size, 4, none⟩ = some (.slice Av vs.length cv) := by simp [World.cell?, hxS]
          have y0 : wS.cell? ⟨wv.heap.size, 0, none⟩ = some (.int .i64 zk) := by simp [World.cell?, hvb]
          have y1 : wS.cell? ⟨wv.heap.size, 1, none⟩ = some (.string zt) := by simp [World.cell?, hvb]
          have y2 : wS.cell? ⟨wv.heap.size, 2, none⟩ = some (.int .i64 za) := by simp [World.cell?, hvb]
          have y3 : wS.cell? ⟨wv.heap.size, 3, none⟩ = some (.int .i64 zb) := by simp [World.cell?, hvb]
          have HOS : Hid ((wS.alloc (.cells #[.int .i64 zk, .string zt, .int .i64 za, .int .i64 zb] 60)).ownsRow (w2.heap.size + 1) 60 4 (.slice Av vs.length cv) vs.length (vs.flatMap encValue)) := Lib.hid (keep_own HOK.out (HBKS.out.trans ((Below.refl _ _).alloc (by omega) _)))
          have HRD := Lib.hid (rd_one_value wS ⟨zk, zt, za, zb⟩)
          have hk1 : vs.length + 1 ≤ maxLen := by simp only [maxLen]; omega
          have hk2' : (vs.length + 1) * 40 ≤ 140737488355328 := by omega
          have hbase : w2.heap.size + 1 ≤ (wS.alloc (.cells #[.int .i64 zk, .string zt, .int .i64 za, .int .i64 zb] 60)).heap.size := by simp; omega
          clear hrS hxS hvb hzz
          go_wp2_with (at_builtin; go_must (refine wpList_append_rd (enc := encValue) rfl (.tmp 72) (.tmp 74) _ rfl (w2.heap.size + 1) 60 i1 _ 4 40 len_value one_value Tryz.underlying47 hi1 hz1 hs1' hb1 rfl (by decide) (.slice Av vs.length cv) vs.length (vs.flatMap encValue) rfl HOS.out _ (.slice (some ⟨wS.heap.size, 0, none⟩) 1 1) [(⟨zk, zt, za, zb⟩ : Sg.Value)] rfl HRD.out hk1 hk2' hbase ?_))
          intro v8 w8 hown8 hg8 hat8
          obtain ⟨A8, c8, rfl⟩ := own_form hown8
          have hsz8 := hg8.size
          have HB8 : Hid (Below w2.heap.size w2 w8) := Lib.hid ((HB2S.out.alloc (by omega) _).grown hg8 (by simp; omega) (fun q hq => by have := (HOS.out.lt q hq).1; omega))
          have hx8 : w8.heap[w2.heap.size]? = some (.cells #[.string s0, .int .i64 a1, .int .i64 b1, .bool ev, .slice Av vs.length cv] 67 (0, 0)) := (hg8.block _ (by simp; omega) (fun e => by have := (HOS.out.lt _ e.symm).1; omega)).trans (((Below.refl wS.heap.size wS).alloc (Nat.le_refl _) (.cells #[.int .i64 zk, .string zt, .int .i64 za, .int .i64 zb] 60)).block _ (by omega) |>.trans HXS.out)
          have x4 : w8.cell? ⟨w2.heap.size, 4, none⟩ = some (.slice Av vs.length cv) := by simp [World.cell?, hx8]
          have z4 : w8.frozen? ⟨w2.heap.size, 4, none⟩ = false := by simp [World.frozen?, hx8]
          have HX9 := Lib.hid (gset (i := 4) hx8 (.slice A8 (vs.length + 1) c8))
          have HO9 := Lib.hid (ownsRow_setCell_below (own_value hown8) (a := ⟨w2.heap.size, 4, none⟩) (by show w2.heap.size < _; omega) (.slice A8 (vs.length + 1) c8))
          have HB9 := Lib.hid (HB8.out.setCell (p := ⟨w2.heap.size, 4, none⟩) (Nat.le_refl _) (.slice A8 (vs.length + 1) c8))
          have HAL2 : Hid (∀ j u, j < k + 1 - 2 - o → U[j]? = some u → (Sg.valV u).isSome = true) := Lib.hid fun j u hj hu => by
            by_cases e : j = k - 2 - o
            · subst e; rw [HUK.out] at hu; cases hu; rw [← HQ.out]; rfl
            · exact HALL.out j u (by omega) hu
          clear hown8 hg8 hat8 hx8 x4a y0 y1 y2 y3
          go_wp2_with fail
          go_roundg (n - (k + 1))
          case measure => omega
          case rel => exact ⟨k + 1, .slice A8 (vs.length + 1) c8, vs ++ [(⟨zk, zt, za, zb⟩ : Sg.Value)], ev, by omega, by omega, rfl, by go_num, HB9.out, HX9.out, HO9.out, HNX.out.symm, HEV2.out, HAL2.out⟩
    · have hkn : k - 2 - o = U.length := by have h1 := HULE.out; have h2 := HNL.out; omega
      have HN := Lib.hid (HSGN.out vs (Sg.valsB_to fun j u hj hu => HALL.out j u (by omega) hu) (by rw [HVS.out, hkn, List.take_of_length_le (Nat.le_refl _)]))
      have HEN : Hid (decide (o = 1) = ev) := Lib.hid (by
        rw [HEV.out]
        by_cases h : o = 1
        · have h1 := HULE.out
          have h2 := HNL.out
          rw [decide_eq_true (show 2 < k by omega), Bool.and_true]
        · rw [decide_eq_false h]; rfl)
      have hrS := (HBK.out.block _ hwb).trans HR2.out
      have hxS := HXK.out
      have r0 : wr.cell? ⟨w.heap.size, 0, none⟩ = some (.string ⟨#[]⟩) := by simp [World.cell?, hrS]
      have r1 : wr.cell? ⟨w.heap.size, 1, none⟩ = some (.int .i64 0) := by simp [World.cell?, hrS]
      have r2 : wr.cell? ⟨w.heap.size, 2, none⟩ = some (.int .i64 0) := by simp [World.cell?, hrS]
      have r3 : wr.cell? ⟨w.heap.size, 3, none⟩ = some (.bool false) := by simp [World.cell?, hrS]
      have r4 : wr.cell? ⟨w.heap.size, 4, none⟩ = some (.slice none 0 0) := by simp [World.cell?, hrS]
      have y0 : wr.frozen? ⟨w.heap.size, 0, none⟩ = false := by simp [World.frozen?, hrS]
      have y1 : wr.frozen? ⟨w.heap.size, 1, none⟩ = false := by simp [World.frozen?, hrS]
      have y2 : wr.frozen? ⟨w.heap.size, 2, none⟩ = false := by simp [World.frozen?, hrS]
      have y3 : wr.frozen? ⟨w.heap.size, 3, none⟩ = false := by simp [World.frozen?, hrS]
      have y4 : wr.frozen? ⟨w.heap.size, 4, none⟩ = false := by simp [World.frozen?, hrS]
      have x0 : wr.cell? ⟨w2.heap.size, 0, none⟩ = some (.string s0) := by simp [World.cell?, hxS]
      have x1 : wr.cell? ⟨w2.heap.size, 1, none⟩ = some (.int .i64 a1) := by simp [World.cell?, hxS]
      have x2 : wr.cell? ⟨w2.heap.size, 2, none⟩ = some (.int .i64 b1) := by simp [World.cell?, hxS]
      have x3 : wr.cell? ⟨w2.heap.size, 3, none⟩ = some (.bool ev) := by simp [World.cell?, hxS]
      have x4 : wr.cell? ⟨w2.heap.size, 4, none⟩ = some (.slice Av vs.length cv) := by simp [World.cell?, hxS]
      have z0 : wr.frozen? ⟨w2.heap.size, 0, none⟩ = false := by simp [World.frozen?, hxS]
      have z1 : wr.frozen? ⟨w2.heap.size, 1, none⟩ = false := by simp [World.frozen?, hxS]
      have z2 : wr.frozen? ⟨w2.heap.size, 2, none⟩ = false := by simp [World.frozen?, hxS]
      have z3 : wr.frozen? ⟨w2.heap.size, 3, none⟩ = false := by simp [World.frozen?, hxS]
      have z4 : wr.frozen? ⟨w2.heap.size, 4, none⟩ = false := by simp [World.frozen?, hxS]
      have HRX := Lib.hid (rdx_of_own len_value HOK.out)
      clear hrS hxS hkn
      go_wp2_with fail
      refine bodyPost_ret (v := .tuple #[.agg #[.string s0, .int .i64 a1, .int .i64 b1, .bool ev, .slice Av vs.length cv], .bool true]) (by simp [results, Tryz.results64, go_sem, r0, r1, r2, r3, r4]) rfl ?_
      rw [HN.out]
      exact ⟨s0, a1, b1, ev, Av, vs.length, cv, rfl, ((((HBW.out.setCell (Nat.le_refl _) _).setCell (Nat.le_refl _) _).setCell (Nat.le_refl _) _).setCell (Nat.le_refl _) _).setCell (Nat.le_refl _) _, fun s hs => by
        cases hs
        refine ⟨rfl, rfl, rfl, HEN.out, rfl, HRX.out.keep fun q hq => ⟨⟨by omega, by simpa using hq.2⟩, ?_⟩⟩
        exact set5 (by omega) _ _ _ _ _⟩
end Go.Proofs.YtkmimjngmfdpmaaGreatDoor
