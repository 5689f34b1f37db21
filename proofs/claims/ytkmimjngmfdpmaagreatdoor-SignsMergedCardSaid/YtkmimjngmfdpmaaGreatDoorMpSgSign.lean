/- signs.sign: the line of a sign. -/
import Derived.Test.YtkmimjngmfdpmaaGreatDoorMpSgAfter
import Derived.Test.YtkmimjngmfdpmaaGreatDoorMpTrimPlain
import Derived.Lib.SmallJoins
namespace Go.Proofs.YtkmimjngmfdpmaaGreatDoor
open Go Go.RowKit

theorem gset {w : World} {g i : Nat} {cs : Array Value} {t : TypeId} {fr : Nat × Nat} (h : w.heap[g]? = some (.cells cs t fr)) (v : Value) : (w.setCell ⟨g, i, none⟩ v).heap[g]? = some (.cells (cs.setIfInBounds i v) t fr) := Go.Joins.block_setCell h v
def RetSign (q : Option Sg.Sign) (w : World) (e : Ending) (w' : World) : Prop := ∃ (c : ByteArray) (a b : Int) (ev : Bool) (A : Option Addr) (n cp : Nat), e = .returned (.tuple #[.agg #[.string c, .int .i64 a, .int .i64 b, .bool ev, .slice A n cp], .bool q.isSome]) ∧ Below w.heap.size w w' ∧
  ∀ s, q = some s → s.code = c ∧ s.wide = a ∧ s.high = b ∧ s.even = ev ∧ n = s.values.length ∧ RdX w' (fun k => w.heap.size ≤ k ∧ k < w'.heap.size) 4 encValue (.slice A n cp) s.values
theorem set5 {w : World} {g q : Nat} (h : q ≠ g) (v0 v1 v2 v3 v4 : Value) : (((((w.setCell ⟨g, 0, none⟩ v0).setCell ⟨g, 1, none⟩ v1).setCell ⟨g, 2, none⟩ v2).setCell ⟨g, 3, none⟩ v3).setCell ⟨g, 4, none⟩ v4).heap[q]? = w.heap[q]? := by
  rw [Below.heap_setCell _ ⟨g, 4, none⟩ _ _ h, Below.heap_setCell _ ⟨g, 3, none⟩ _ _ h, Below.heap_setCell _ ⟨g, 2, none⟩ _ _ h, Below.heap_setCell _ ⟨g, 1, none⟩ _ _ h, Below.heap_setCell _ ⟨g, 0, none⟩ _ _ h]
theorem RdX_nilV (w : World) (ok : Nat → Prop) : RdX w ok 4 encValue (.slice none 0 0) ([] : List Sg.Value) := ⟨none, 0, rfl, Nat.le_refl _, by omega, fun h => absurd h (by simp)⟩
theorem RetSign.no {w w' : World} {q : Option Sg.Sign} (hq : q = none) (hb : Below w.heap.size w w') (c : ByteArray) (a b : Int) (ev : Bool) (A : Option Addr) (n cp : Nat) : RetSign q w (.returned (.tuple #[.agg #[.string c, .int .i64 a, .int .i64 b, .bool ev, .slice A n cp], .bool false])) w' := by
  subst hq
  exact ⟨c, a, b, ev, A, n, cp, rfl, hb, fun s h => by cases h⟩
set_option maxRecDepth 100000 in
set_option maxHeartbeats 8000000 in
theorem gSign_any (t : ByteArray) (w : World) (hg : Glob w) (ht : t.size ≤ 1000000) (h10 : (10 : UInt8) ∉ t.data.toList) : Calls Tryz.prog 60 #[.string t] w (RetSign (Sg.signL (Lib.split t.data.toList [32])) w) := by
  have HG := Lib.hid fun (W : World) (hW : Below w.heap.size w W) => hg.below hW
  have HSPL := Lib.hid fun (W : World) (hW : Below w.heap.size w W) => gsplit_any t 32 W (HG.out W hW) ht
  obtain ⟨ws, hws⟩ : ∃ ws, ws = Lib.split t.data.toList [32] := ⟨_, rfl⟩
  have hne : ws ≠ [] := by rw [hws, Lx.pst_split]; simp
  have HW1 : Hid (∀ x ∈ ws, x.length ≤ 1000000 ∧ (10 : UInt8) ∉ x) := Lib.hid fun x hx => by
    rw [hws] at hx
    have h1 := Sg.split_leG hx
    have h2 : t.data.toList.length = t.size := rfl
    exact ⟨by omega, fun h => h10 (Sg.split_mem hx h)⟩
  have hwl : ws.length ≤ 1000001 := by
    rw [hws, Lx.pst_split, List.length_append, List.length_singleton]
    have h2 := Lx.pst_count 32 t.data.toList
    have h3 : t.data.toList.length = t.size := rfl
    omega
  rw [← hws] at HSPL ⊢
  clear hws h10 hg
  have HB0 : Hid (Below w.heap.size w (w.alloc (.cells #[.string ⟨#[]⟩, .int .i64 0, .int .i64 0, .bool false, .slice none 0 0] 67))) := Lib.hid ((Below.refl _ _).alloc (Nat.le_refl _) _)
  go_enter Tryz.func60, Tryz.ntmps60
  go_wp2_with fail
  refine (HSPL.out _ HB0.out).mono ?_
  rintro e w1 ⟨v, l, rfl, hRD, hq, hbel⟩
  have hl1 : l.length = ws.length := by rw [← hq, List.length_map]
  have hpos : 0 < l.length := by rw [hl1]; exact List.length_pos_iff.2 hne
  have HB1 := Lib.hid (HB0.out.trans (hbel.mono HB0.out.size))
  have hr1 : w1.heap[w.heap.size]? = some (.cells #[.string ⟨#[]⟩, .int .i64 0, .int .i64 0, .bool false, .slice none 0 0] 67 (0, 0)) := (hbel.block _ (by simp)).trans (heap_alloc_new _ _)
  have HR1 := Lib.hid hr1
  have hs1 : w.heap.size < w1.heap.size := (Array.getElem?_eq_some_iff.1 hr1).1
  have HQ := Lib.hid hq
  have HRD := Lib.hid hRD
  obtain ⟨A, c, rfl, hlc, hc63, hh⟩ := hRD
  obtain ⟨b, off, rfl, hb, hcell⟩ := hh hpos
  have HC := Lib.hid fun (k : Nat) (s : ByteArray) (h : l[k]? = some s) => (by have := hcell k s h 0 (.string s) rfl; simpa using this : w1.cell? ⟨b, off + k, none⟩ = some (.string s))
  have HSZ : Hid (∀ s ∈ l, s.size ≤ 1000000 ∧ (10 : UInt8) ∉ s.data.toList) := Lib.hid fun s hs => HW1.out _ (by rw [← HQ.out]; exact List.mem_map_of_mem hs)
  have r0 : w1.cell? ⟨w.heap.size, 0, none⟩ = some (.string ⟨#[]⟩) := by simp [World.cell?, hr1]
  have r1 : w1.cell? ⟨w.heap.size, 1, none⟩ = some (.int .i64 0) := by simp [World.cell?, hr1]
  have r2 : w1.cell? ⟨w.heap.size, 2, none⟩ = some (.int .i64 0) := by simp [World.cell?, hr1]
  have r3 : w1.cell? ⟨w.heap.size, 3, none⟩ = some (.bool false) := by simp [World.cell?, hr1]
  have r4 : w1.cell? ⟨w.heap.size, 4, none⟩ = some (.slice none 0 0) := by simp [World.cell?, hr1]
  have y0 : w1.frozen? ⟨w.heap.size, 0, none⟩ = false := by simp [World.frozen?, hr1]
  have y1 : w1.frozen? ⟨w.heap.size, 1, none⟩ = false := by simp [World.frozen?, hr1]
  have y2 : w1.frozen? ⟨w.heap.size, 2, none⟩ = false := by simp [World.frozen?, hr1]
  have y3 : w1.frozen? ⟨w.heap.size, 3, none⟩ = false := by simp [World.frozen?, hr1]
  have y4 : w1.frozen? ⟨w.heap.size, 4, none⟩ = false := by simp [World.frozen?, hr1]
  clear hbel hq hh hcell hr1 hne HW1 HSPL
  by_cases h2 : l.length < 2
  · have HN : Hid (Sg.signL ws = none) := Lib.hid (Sg.signL_short (by omega))
    have h2I : (l.length : Int) < 2 := by omega
    clear h2 hl1
    go_wp2_with fail
    refine bodyPost_ret (v := .tuple #[.agg #[.string ⟨#[]⟩, .int .i64 0, .int .i64 0, .bool false, .slice none 0 0], .bool false]) (by simp [results, Tryz.results60, go_sem, r0, r1, r2, r3, r4]) rfl ?_
    exact RetSign.no HN.out (((((HB1.out.setCell (Nat.le_refl _) _).setCell (Nat.le_refl _) _).setCell (Nat.le_refl _) _).setCell (Nat.le_refl _) _).setCell (Nat.le_refl _) _) _ _ _ _ _ _ _
  have HL1 := Lib.hid hl1
  have h2I : ¬ (l.length : Int) < 2 := by omega
  obtain ⟨s0, s1, rest, hl⟩ : ∃ s0 s1 rest, l = s0 :: s1 :: rest := by
    match l, h2 with
    | [], h => exact absurd (by simp) h
    | [_], h => exact absurd (by simp) h
    | a :: b :: r, _ => exact ⟨a, b, r, rfl⟩
  have hlen : l.length = rest.length + 2 := by rw [hl]; rfl
  have hrn : rest.length ≤ 1000001 := by omega
  clear hl1
  have hc0 := by simpa using HC.out 0 s0 (by rw [hl]; rfl)
  have HC1 := Lib.hid (HC.out 1 s1 (by rw [hl]; rfl))
  have HCR : Hid (∀ (k : Nat) (s : ByteArray), rest[k]? = some s → w1.cell? ⟨b, off + (k + 2), none⟩ = some (.string s)) := Lib.hid fun k s h => HC.out (k + 2) s (by rw [hl]; simpa using h)
  have HZ0 := Lib.hid (HSZ.out s0 (by rw [hl]; simp))
  have HZ1 := Lib.hid (HSZ.out s1 (by rw [hl]; simp))
  have HZR : Hid (∀ s ∈ rest, s.size ≤ 1000000 ∧ (10 : UInt8) ∉ s.data.toList) := Lib.hid fun s hs => HSZ.out s (by rw [hl]; simp [hs])
  have HWS : Hid (ws = s0.data.toList :: s1.data.toList :: rest.map (·.data.toList)) := Lib.hid (by rw [← HQ.out, hl]; rfl)
  have HFR := Lib.hid fun W => gFree_any s0 W HZ0.out.1
  rw [Sg.free_loose HZ0.out.2] at HFR
  obtain ⟨lo, hlo⟩ : ∃ lo, lo = Sg.looseB s0.data.toList := ⟨_, rfl⟩
  rw [← hlo] at HFR
  have HLO := Lib.hid hlo
  have h0I : (0 : Int) < (l.length : Int) := by omega
  clear hl h2 HC HSZ HQ HRD hlo HL1
  cases lo
  · have HN : Hid (Sg.signL ws = none) := Lib.hid (by rw [HWS.out]; exact Sg.signL_loose HLO.out.symm)
    go_wp2_with fail
    refine (HFR.out _).mono ?_
    rintro e w2 ⟨rfl, hb2⟩
    have HB2 := Lib.hid (HB1.out.trans (hb2.mono HB1.out.size))
    have hr2 := (hb2.block _ hs1).trans HR1.out
    clear hb2 r0 r1 r2 r3 r4 y0 y1 y2 y3 y4
    have r0 : w2.cell? ⟨w.heap.size, 0, none⟩ = some (.string ⟨#[]⟩) := by simp [World.cell?, hr2]
    have r1 : w2.cell? ⟨w.heap.size, 1, none⟩ = some (.int .i64 0) := by simp [World.cell?, hr2]
    have r2 : w2.cell? ⟨w.heap.size, 2, none⟩ = some (.int .i64 0) := by simp [World.cell?, hr2]
    have r3 : w2.cell? ⟨w.heap.size, 3, none⟩ = some (.bool false) := by simp [World.cell?, hr2]
    have r4 : w2.cell? ⟨w.heap.size, 4, none⟩ = some (.slice none 0 0) := by simp [World.cell?, hr2]
    have y0 : w2.frozen? ⟨w.heap.size, 0, none⟩ = false := by simp [World.frozen?, hr2]
    have y1 : w2.frozen? ⟨w.heap.size, 1, none⟩ = false := by simp [World.frozen?, hr2]
    have y2 : w2.frozen? ⟨w.heap.size, 2, none⟩ = false := by simp [World.frozen?, hr2]
    have y3 : w2.frozen? ⟨w.heap.size, 3, none⟩ = false := by simp [World.frozen?, hr2]
    have y4 : w2.frozen? ⟨w.heap.size, 4, none⟩ = false := by simp [World.frozen?, hr2]
    clear hr2
    go_wp2_with fail
    refine bodyPost_ret (v := .tuple #[.agg #[.string ⟨#[]⟩, .int .i64 0, .int .i64 0, .bool false, .slice none 0 0], .bool false]) (by simp [results, Tryz.results60, go_sem, r0, r1, r2, r3, r4]) rfl ?_
    exact RetSign.no HN.out (((((HB2.out.setCell (Nat.le_refl _) _).setCell (Nat.le_refl _) _).setCell (Nat.le_refl _) _).setCell (Nat.le_refl _) _).setCell (Nat.le_refl _) _) _ _ _ _ _ _ _
  go_wp2_with fail
  refine (HFR.out _).mono ?_
  rintro e w2 ⟨rfl, hb2⟩
  have HB2 := Lib.hid (HB1.out.trans (hb2.mono HB1.out.size))
  have HR2 := Lib.hid ((hb2.block _ hs1).trans HR1.out)
  have hs2 := Nat.lt_of_lt_of_le hs1 hb2.size
  have hc0' := (hb2.cell (p := ⟨b, off, none⟩) hb).trans hc0
  have HC1 := Lib.hid ((hb2.cell (p := ⟨b, off + 1, none⟩) hb).trans HC1.out)
  have HCR2 : Hid (∀ (k : Nat) (s : ByteArray), rest[k]? = some s → w2.cell? ⟨b, off + (k + 2), none⟩ = some (.string s)) := Lib.hid fun k s h => (hb2.cell (p := ⟨b, off + (k + 2), none⟩) hb).trans (HCR.out k s h)
  have hb' : b < w2.heap.size := Nat.lt_of_lt_of_le hb hb2.size
  clear hb2 hc0 hb r0 r1 r2 r3 r4 y0 y1 y2 y3 y4
  -- the variable of the sign
  obtain ⟨w3, hw3⟩ : ∃ w3, w3 = w2.alloc (.cells #[.string s0, .int .i64 0, .int .i64 0, .bool false, .slice none 0 0] 67) := ⟨_, rfl⟩
  have hb3 : Below w2.heap.size w2 w3 := by rw [hw3]; exact (Below.refl _ _).alloc (Nat.le_refl _) _
  have hx3 : w3.heap[w2.heap.size]? = some (.cells #[.string s0, .int .i64 0, .int .i64 0, .bool false, .slice none 0 0] 67 (0, 0)) := by rw [hw3]; exact heap_alloc_new _ _
  have hs3 : w2.heap.size < w3.heap.size := by rw [hw3]; simp
  have HB3 := Lib.hid (HB2.out.trans (hb3.mono HB2.out.size))
  have HX3 := Lib.hid hx3
  have H23 := Lib.hid hb3
  have HR3 := Lib.hid ((hb3.block _ hs2).trans HR2.out)
  have hc1 := (hb3.cell (p := ⟨b, off + 1, none⟩) hb').trans HC1.out
  have HTW := Lib.hid (gTwo_any s1 120 w3 (HG.out w3 HB3.out) HZ1.out.1)
  obtain ⟨htw1, htw2⟩ := Sg.two_eq (t := s1.data.toList) (c := 120) rfl
  obtain ⟨⟨a1, b1, is⟩, hq3⟩ : ∃ q, q = Sg.twoP s1.data.toList 120 := ⟨_, rfl⟩
  rw [← hq3] at HTW htw1 htw2
  simp only at htw1 htw2
  have HT1 := Lib.hid htw1
  have HT2 := Lib.hid htw2
  have HW3 := Lib.hid hw3
  have h1I : (1 : Int) < (l.length : Int) := by omega
  have hwb : w.heap.size < w2.heap.size := hs2
  clear hw3 hb3 hx3 hq3 htw1 htw2
  go_upto_region 5 with fail
  rw [← HW3.out]
  go_wp2_with fail
  refine HTW.out.mono ?_
  rintro e w4 ⟨rfl, hb4⟩
  have HB4 := Lib.hid (HB3.out.trans (hb4.mono HB3.out.size))
  have hr4 := (hb4.block _ (by omega)).trans HR3.out
  have H24 := Lib.hid (H23.out.trans (hb4.mono (by omega)))
  have hx4 := (hb4.block _ hs3).trans HX3.out
  have hs4 := Nat.lt_of_lt_of_le hs3 hb4.size
  clear hb4 hc0' hc1 HC1
  have r0 : w4.cell? ⟨w.heap.size, 0, none⟩ = some (.string ⟨#[]⟩) := by simp [World.cell?, hr4]
  have r1 : w4.cell? ⟨w.heap.size, 1, none⟩ = some (.int .i64 0) := by simp [World.cell?, hr4]
  have r2 : w4.cell? ⟨w.heap.size, 2, none⟩ = some (.int .i64 0) := by simp [World.cell?, hr4]
  have r3 : w4.cell? ⟨w.heap.size, 3, none⟩ = some (.bool false) := by simp [World.cell?, hr4]
  have r4 : w4.cell? ⟨w.heap.size, 4, none⟩ = some (.slice none 0 0) := by simp [World.cell?, hr4]
  have y0 : w4.frozen? ⟨w.heap.size, 0, none⟩ = false := by simp [World.frozen?, hr4]
  have y1 : w4.frozen? ⟨w.heap.size, 1, none⟩ = false := by simp [World.frozen?, hr4]
  have y2 : w4.frozen? ⟨w.heap.size, 2, none⟩ = false := by simp [World.frozen?, hr4]
  have y3 : w4.frozen? ⟨w.heap.size, 3, none⟩ = false := by simp [World.frozen?, hr4]
  have y4 : w4.frozen? ⟨w.heap.size, 4, none⟩ = false := by simp [World.frozen?, hr4]
  have x0 : w4.cell? ⟨w2.heap.size, 0, none⟩ = some (.string s0) := by simp [World.cell?, hx4]
  have x1 : w4.cell? ⟨w2.heap.size, 1, none⟩ = some (.int .i64 0) := by simp [World.cell?, hx4]
  have x2 : w4.cell? ⟨w2.heap.size, 2, none⟩ = some (.int .i64 0) := by simp [World.cell?, hx4]
  have x3 : w4.cell? ⟨w2.heap.size, 3, none⟩ = some (.bool false) := by simp [World.cell?, hx4]
  have x4 : w4.cell? ⟨w2.heap.size, 4, none⟩ = some (.slice none 0 0) := by simp [World.cell?, hx4]
  have z0 : w4.frozen? ⟨w2.heap.size, 0, none⟩ = false := by simp [World.frozen?, hx4]
  have z1 : w4.frozen? ⟨w2.heap.size, 1, none⟩ = false := by simp [World.frozen?, hx4]
  have z2 : w4.frozen? ⟨w2.heap.size, 2, none⟩ = false := by simp [World.frozen?, hx4]
  have z3 : w4.frozen? ⟨w2.heap.size, 3, none⟩ = false := by simp [World.frozen?, hx4]
  have z4 : w4.frozen? ⟨w2.heap.size, 4, none⟩ = false := by simp [World.frozen?, hx4]
  have HR4 := Lib.hid hr4
  have HX4 := Lib.hid hx4
  clear hr4 hx4
  cases is
  · have HN : Hid (Sg.signL ws = none) := Lib.hid (by
      rw [HWS.out]
      refine Sg.signL_two ?_
      have := HT1.out
      cases hz : Sg.twoV s1.data.toList 120 with
      | none => rfl
      | some q => rw [hz] at this; cases this)
    go_wp2_with fail
    refine bodyPost_ret (v := .tuple #[.agg #[.string s0, .int .i64 0, .int .i64 0, .bool false, .slice none 0 0], .bool false]) (by simp [results, Tryz.results60, go_sem, r0, r1, r2, r3, r4]) rfl ?_
    exact RetSign.no HN.out (((((HB4.out.setCell (Nat.le_refl _) _).setCell (Nat.le_refl _) _).setCell (Nat.le_refl _) _).setCell (Nat.le_refl _) _).setCell (Nat.le_refl _) _) _ _ _ _ _ _ _
  have HTV : Hid (Sg.twoV s1.data.toList 120 = some (a1, b1)) := Lib.hid (by
    have h1 := HT1.out
    cases hz : Sg.twoV s1.data.toList 120 with
    | none => rw [hz] at h1; cases h1
    | some q => rw [HT2.out q hz])
  clear HT1 HT2
  obtain ⟨w5, hw5⟩ : ∃ w5, w5 = (w4.setCell ⟨w2.heap.size, 1, none⟩ (.int .i64 a1)).setCell ⟨w2.heap.size, 2, none⟩ (.int .i64 b1) := ⟨_, rfl⟩
  have hx5 : w5.heap[w2.heap.size]? = some (.cells #[.string s0, .int .i64 a1, .int .i64 b1, .bool false, .slice none 0 0] 67 (0, 0)) := by rw [hw5]; exact gset (gset HX4.out _) _
  have hb5 : Below w2.heap.size w2 w5 := by
    rw [hw5]
    exact ((H24.out).setCell (Nat.le_refl _) _).setCell (Nat.le_refl _) _
  have HW5 := Lib.hid hw5
  have HB5 := Lib.hid hb5
  have HX5 := Lib.hid hx5
  clear hw5 hb5 hx5
  go_upto_region 9 with fail
  rw [← HW5.out]
  clear r0 r1 r2 r3 r4 y0 y1 y2 y3 y4 x0 x1 x2 x3 x4 z0 z1 z2 z3 z4
  have hsz5 : w2.heap.size < w5.heap.size := (Array.getElem?_eq_some_iff.1 HX5.out).1
  have HWR : Hid (∀ (k : Nat) (s : ByteArray) (W : World), rest[k]? = some s → Below w2.heap.size w2 W → W.cell? ⟨b, off + 2 + k, none⟩ = some (.string s)) := Lib.hid fun k s W h hW => by
    have := (hW.cell (p := ⟨b, off + (k + 2), none⟩) hb').trans (HCR2.out k s h)
    rwa [show off + (k + 2) = off + 2 + k by omega] at this
  have hc2' : rest.length + 2 ≤ c := by omega
  rcases rest with _ | ⟨x, r'⟩
  · have HM : Hid (Sg.marked (([] : List ByteArray).map (·.data.toList)) = false) := Lib.hid rfl
    by_cases hc2 : c = 2 <;> (
    go_upto_region 12 with fail
    have HU : Hid (Sg.unmarked (([] : List ByteArray).map (·.data.toList)) = []) := Lib.hid rfl
    have HN : Hid (Sg.signL ws = some ⟨s0, a1, b1, false, []⟩) := Lib.hid (by rw [HWS.out, Sg.signL_some HLO.out.symm HTV.out (by rw [HU.out]; rfl), HM.out, HU.out]; rfl)
    have hrr := (HB5.out.block _ hwb).trans HR2.out
    have hxx := HX5.out
    have r0 : w5.cell? ⟨w.heap.size, 0, none⟩ = some (.string ⟨#[]⟩) := by simp [World.cell?, hrr]
    have r1 : w5.cell? ⟨w.heap.size, 1, none⟩ = some (.int .i64 0) := by simp [World.cell?, hrr]
    have r2 : w5.cell? ⟨w.heap.size, 2, none⟩ = some (.int .i64 0) := by simp [World.cell?, hrr]
    have r3 : w5.cell? ⟨w.heap.size, 3, none⟩ = some (.bool false) := by simp [World.cell?, hrr]
    have r4 : w5.cell? ⟨w.heap.size, 4, none⟩ = some (.slice none 0 0) := by simp [World.cell?, hrr]
    have y0 : w5.frozen? ⟨w.heap.size, 0, none⟩ = false := by simp [World.frozen?, hrr]
    have y1 : w5.frozen? ⟨w.heap.size, 1, none⟩ = false := by simp [World.frozen?, hrr]
    have y2 : w5.frozen? ⟨w.heap.size, 2, none⟩ = false := by simp [World.frozen?, hrr]
    have y3 : w5.frozen? ⟨w.heap.size, 3, none⟩ = false := by simp [World.frozen?, hrr]
    have y4 : w5.frozen? ⟨w.heap.size, 4, none⟩ = false := by simp [World.frozen?, hrr]
    have x0 : w5.cell? ⟨w2.heap.size, 0, none⟩ = some (.string s0) := by simp [World.cell?, hxx]
    have x1 : w5.cell? ⟨w2.heap.size, 1, none⟩ = some (.int .i64 a1) := by simp [World.cell?, hxx]
    have x2 : w5.cell? ⟨w2.heap.size, 2, none⟩ = some (.int .i64 b1) := by simp [World.cell?, hxx]
    have x3 : w5.cell? ⟨w2.heap.size, 3, none⟩ = some (.bool false) := by simp [World.cell?, hxx]
    have x4 : w5.cell? ⟨w2.heap.size, 4, none⟩ = some (.slice none 0 0) := by simp [World.cell?, hxx]
    have z0 : w5.frozen? ⟨w2.heap.size, 0, none⟩ = false := by simp [World.frozen?, hxx]
    have z1 : w5.frozen? ⟨w2.heap.size, 1, none⟩ = false := by simp [World.frozen?, hxx]
    have z2 : w5.frozen? ⟨w2.heap.size, 2, none⟩ = false := by simp [World.frozen?, hxx]
    have z3 : w5.frozen? ⟨w2.heap.size, 3, none⟩ = false := by simp [World.frozen?, hxx]
    have z4 : w5.frozen? ⟨w2.heap.size, 4, none⟩ = false := by simp [World.frozen?, hxx]
    have HBF := Lib.hid (HB2.out.trans (HB5.out.mono (by omega)))
    clear hrr hxx
    go_wp2_with fail
    refine wp_loop_rounds 1 ?_
    rw [rounds_succ]
    go_wp2_with fail
    refine bodyPost_ret (v := .tuple #[.agg #[.string s0, .int .i64 a1, .int .i64 b1, .bool false, .slice none 0 0], .bool true]) (by simp [results, Tryz.results60, go_sem, r0, r1, r2, r3, r4]) rfl ?_
    rw [HN.out]
    exact ⟨s0, a1, b1, false, none, 0, 0, rfl, ((((HBF.out.setCell (Nat.le_refl _) _).setCell (Nat.le_refl _) _).setCell (Nat.le_refl _) _).setCell (Nat.le_refl _) _).setCell (Nat.le_refl _) _, fun s hs => by cases hs; exact ⟨rfl, rfl, rfl, rfl, rfl, RdX_nilV _ _⟩⟩)
  simp only [List.length_cons] at hc2' hrn hlen
  have hc2 : ¬ c = 2 := by omega
  have hx0 := HWR.out 0 x w5 rfl HB5.out
  rw [Nat.add_zero] at hx0
  by_cases hx : x.data.toList = [61]
  case neg =>
    have HM : Hid (Sg.marked ((x :: r').map (·.data.toList)) = false) := Lib.hid (by simp [Sg.marked, hx])
    have hxe : (x.toList == [61]) = false := by rw [beq_eq_false_iff_ne, Lib.toList_data]; exact hx
    clear hx
    go_upto_region 12 with fail
    clear hx0 hxe
    obtain ⟨U, hU⟩ : ∃ U, U = x :: r' := ⟨_, rfl⟩
    have hul : r'.length + 1 = U.length := by rw [hU]; rfl
    rw [hul]
    have HUM : Hid (Sg.unmarked ((x :: r').map (·.data.toList)) = U.map (·.data.toList)) := Lib.hid (by unfold Sg.unmarked; rw [HM.out, hU]; rfl)
    have HUW : Hid (∀ (k : Nat) (s : ByteArray) (W : World), U[k]? = some s → Below w2.heap.size w2 W → W.cell? ⟨b, off + 2 + k, none⟩ = some (.string s)) := Lib.hid fun k s W h hW => by rw [hU] at h; exact HWR.out k s W h hW
    have HUZ : Hid (∀ s ∈ U, s.size ≤ 1000000 ∧ (10 : UInt8) ∉ s.data.toList) := Lib.hid fun s hs => HZR.out s (by rw [hU] at hs; simp at hs ⊢; exact hs)
    have hun : U.length ≤ 1000001 := by rw [hU]; simp only [List.length_cons] at hrn ⊢; omega
    have HSGN : Hid (∀ vs, Sg.valsB (U.map (·.data.toList)) = true → Sg.valsOf (U.map (·.data.toList)) = vs → Sg.signL ws = some ⟨s0, a1, b1, false, vs⟩) := Lib.hid fun vs h1 h2 => by
      rw [HWS.out, Sg.signL_some HLO.out.symm HTV.out (by rw [HUM.out]; exact h1), HM.out, HUM.out, h2]; rfl
    have HSB : Hid (∀ (k : Nat) (s : ByteArray), U[k]? = some s → Sg.valV s.data.toList = none → Sg.signL ws = none) := Lib.hid fun k s h hv => by
      rw [HWS.out]
      exact Sg.signL_vals (by rw [HUM.out]; exact Sg.valsB_not (k := k) (w := s.data.toList) (by rw [List.getElem?_map, h]; rfl) hv)
    obtain ⟨i1, hi1, hz1, hs1', hb1⟩ := info_parts info_Value
    clear hU hul
    go_wp2_with fail
    go_loopg [61] U.length (fun g i wr => ∃ (k : Nat) (vv : Value) (vs : List Sg.Value), k ≤ U.length ∧ g = U.length - k ∧ i = .int .i64 k ∧ Below w2.heap.size w2 wr ∧ wr.heap[w2.heap.size]? = some (.cells #[.string s0, .int .i64 a1, .int .i64 b1, .bool false, vv] 67 (0, 0)) ∧ wr.ownsRow (w2.heap.size + 1) 60 4 vv vs.length (vs.flatMap encValue) ∧ vs = Sg.valsOf ((U.map (·.data.toList)).take k) ∧ ∀ j s, j < k → U[j]? = some s → (Sg.valV s.data.toList).isSome = true)
    case atStart => exact ⟨0, .slice none 0 0, [], Nat.zero_le _, rfl, rfl, HB5.out, HX5.out, World.ownsRow_nil _ _ _ _, rfl, fun j s hj => absurd hj (Nat.not_lt_zero j)⟩
    case round =>
      obtain ⟨k, vv, vs, hk, rfl, rfl, hbel, hx, hown, hvs, hall⟩ := hrel
      obtain ⟨Av, cv, rfl⟩ := own_form hown
      have HBK := Lib.hid hbel
      have HXK := Lib.hid hx
      have HOK := Lib.hid hown
      have HVS := Lib.hid hvs
      have HALL := Lib.hid hall
      have hszk : w2.heap.size < wr.heap.size := (Array.getElem?_eq_some_iff.1 hx).1
      have HBW : Hid (Below w.heap.size w wr) := Lib.hid (HB2.out.trans (hbel.mono (by omega)))
      have hvk : vs.length ≤ k := by rw [hvs]; exact Sg.valsOf_len _ _
      clear hbel hx hown hvs hall
      by_cases hlt : k < U.length
      · obtain ⟨s, hs⟩ : ∃ s, U[k]? = some s := ⟨_, List.getElem?_eq_getElem hlt⟩
        have f0 := HUW.out k s wr hs HBK.out
        have hz := HUZ.out s (List.mem_of_getElem? hs)
        have HVC := Lib.hid (gValue_any s wr (HG.out wr HBW.out) hz.1 hz.2)
        obtain ⟨q, hq⟩ : ∃ q, q = Sg.valV s.data.toList := ⟨_, rfl⟩
        rw [← hq] at HVC
        have HS := Lib.hid hs
        have HQ := Lib.hid hq
        have hkI : (0 : Int) ≤ (k : Int) := by omega
        have hkJ : (k : Int) < (U.length : Int) := by omega
        clear hs hz hq
        go_wp2_with fail
        refine HVC.out.mono ?_
        rintro e wv ⟨rfl, hbv⟩
        obtain ⟨z, hz⟩ : ∃ z, z = Sg.valZ q := ⟨_, rfl⟩
        rw [← hz]
        have HZ := Lib.hid hz
        have hszv := hbv.size
        obtain ⟨wS, hwS⟩ : ∃ wS, wS = wv.alloc (.cells #[.int .i64 z.kind, .string z.text, .int .i64 z.lo, .int .i64 z.hi] 60) := ⟨_, rfl⟩
        have hbS : Below wv.heap.size wv wS := by rw [hwS]; exact (Below.refl _ _).alloc (Nat.le_refl _) _
        have hvb : wS.heap[wv.heap.size]? = some (.cells #[.int .i64 z.kind, .string z.text, .int .i64 z.lo, .int .i64 z.hi] 60 (0, 0)) := by rw [hwS]; exact heap_alloc_new _ _
        have hszS : wv.heap.size < wS.heap.size := by rw [hwS]; simp
        have hbkS : Below wr.heap.size wr wS := hbv.trans (hbS.mono hszv)
        have HBKS := Lib.hid hbkS
        have hxS := (hbkS.block _ hszk).trans HXK.out
        have hrS := (hbkS.block w.heap.size (by omega)).trans ((HBK.out.block _ hwb).trans HR2.out)
        have HB2S : Hid (Below w2.heap.size w2 wS) := Lib.hid (HBK.out.trans (hbkS.mono (by omega)))
        have HBWS : Hid (Below w.heap.size w wS) := Lib.hid (HBW.out.trans (hbkS.mono (by omega)))
        have HWS2 := Lib.hid hwS
        have HXS := Lib.hid hxS
        clear hz hwS
        go_upto_region 16 with fail
        rw [← HWS2.out]
        clear f0 hbv hbS hbkS
        rcases q with _ | vz
        · have HN := Lib.hid (HSB.out k s HS.out HQ.out.symm)
          have r0 : wS.cell? ⟨w.heap.size, 0, none⟩ = some (.string ⟨#[]⟩) := by simp [World.cell?, hrS]
          have r1 : wS.cell? ⟨w.heap.size, 1, none⟩ = some (.int .i64 0) := by simp [World.cell?, hrS]
          have r2 : wS.cell? ⟨w.heap.size, 2, none⟩ = some (.int .i64 0) := by simp [World.cell?, hrS]
          have r3 : wS.cell? ⟨w.heap.size, 3, none⟩ = some (.bool false) := by simp [World.cell?, hrS]
          have r4 : wS.cell? ⟨w.heap.size, 4, none⟩ = some (.slice none 0 0) := by simp [World.cell?, hrS]
          have y0 : wS.frozen? ⟨w.heap.size, 0, none⟩ = false := by simp [World.frozen?, hrS]
          have y1 : wS.frozen? ⟨w.heap.size, 1, none⟩ = false := by simp [World.frozen?, hrS]
          have y2 : wS.frozen? ⟨w.heap.size, 2, none⟩ = false := by simp [World.frozen?, hrS]
          have y3 : wS.frozen? ⟨w.heap.size, 3, none⟩ = false := by simp [World.frozen?, hrS]
          have y4 : wS.frozen? ⟨w.heap.size, 4, none⟩ = false := by simp [World.frozen?, hrS]
          have x0 : wS.cell? ⟨w2.heap.size, 0, none⟩ = some (.string s0) := by simp [World.cell?, hxS]
          have x1 : wS.cell? ⟨w2.heap.size, 1, none⟩ = some (.int .i64 a1) := by simp [World.cell?, hxS]
          have x2 : wS.cell? ⟨w2.heap.size, 2, none⟩ = some (.int .i64 b1) := by simp [World.cell?, hxS]
          have x3 : wS.cell? ⟨w2.heap.size, 3, none⟩ = some (.bool false) := by simp [World.cell?, hxS]
          have x4 : wS.cell? ⟨w2.heap.size, 4, none⟩ = some (.slice Av vs.length cv) := by simp [World.cell?, hxS]
          have z0 : wS.frozen? ⟨w2.heap.size, 0, none⟩ = false := by simp [World.frozen?, hxS]
          have z1 : wS.frozen? ⟨w2.heap.size, 1, none⟩ = false := by simp [World.frozen?, hxS]
          have z2 : wS.frozen? ⟨w2.heap.size, 2, none⟩ = false := by simp [World.frozen?, hxS]
          have z3 : wS.frozen? ⟨w2.heap.size, 3, none⟩ = false := by simp [World.frozen?, hxS]
          have z4 : wS.frozen? ⟨w2.heap.size, 4, none⟩ = false := by simp [World.frozen?, hxS]
          clear hrS hxS hvb
          go_wp2_with fail
          refine bodyPost_ret (v := .tuple #[.agg #[.string s0, .int .i64 a1, .int .i64 b1, .bool false, .slice Av vs.length cv], .bool false]) (by simp [results, Tryz.results60, go_sem, r0, r1, r2, r3, r4]) rfl ?_
          exact RetSign.no HN.out (((((HBWS.out.setCell (Nat.le_refl _) _).setCell (Nat.le_refl _) _).setCell (Nat.le_refl _) _).setCell (Nat.le_refl _) _).setCell (Nat.le_refl _) _) _ _ _ _ _ _ _
        · have hzz : z = vz.value := HZ.out
          have HNX : Hid (Sg.valsOf ((U.map (·.data.toList)).take (k + 1)) = vs ++ [z]) := Lib.hid (by
            rw [Sg.valsOf_next (w := s.data.toList) (by rw [List.getElem?_map, HS.out]; rfl) HQ.out.symm, ← HVS.out, hzz])
          have x4a : wS.cell? ⟨w2.heap.size, 4, none⟩ = some (.slice Av vs.length cv) := by simp [World.cell?, hxS]
          have y0 : wS.cell? ⟨wv.heap.size, 0, none⟩ = some (.int .i64 z.kind) := by simp [World.cell?, hvb]
          have y1 : wS.cell? ⟨wv.heap.size, 1, none⟩ = some (.string z.text) := by simp [World.cell?, hvb]
          have y2 : wS.cell? ⟨wv.heap.size, 2, none⟩ = some (.int .i64 z.lo) := by simp [World.cell?, hvb]
          have y3 : wS.cell? ⟨wv.heap.size, 3, none⟩ = some (.int .i64 z.hi) := by simp [World.cell?, hvb]
          have HOS : Hid ((wS.alloc (.cells #[.int .i64 z.kind, .string z.text, .int .i64 z.lo, .int .i64 z.hi] 60)).ownsRow (w2.heap.size + 1) 60 4 (.slice Av vs.length cv) vs.length (vs.flatMap encValue)) := Lib.hid (keep_own HOK.out (HBKS.out.trans ((Below.refl _ _).alloc (by omega) _)))
          have HRD := Lib.hid (rd_one_value wS z)
          have hk1 : vs.length + 1 ≤ maxLen := by simp only [maxLen]; omega
          have hk2 : (vs.length + 1) * 40 ≤ 140737488355328 := by omega
          have hbase : w2.heap.size + 1 ≤ (wS.alloc (.cells #[.int .i64 z.kind, .string z.text, .int .i64 z.lo, .int .i64 z.hi] 60)).heap.size := by simp; omega
          clear hrS hxS hvb hzz
          go_wp2_with (at_builtin; go_must (refine wpList_append_rd (enc := encValue) rfl (.tmp 74) (.tmp 76) _ rfl (w2.heap.size + 1) 60 i1 _ 4 40 len_value one_value Tryz.underlying47 hi1 hz1 hs1' hb1 rfl (by decide) (.slice Av vs.length cv) vs.length (vs.flatMap encValue) rfl HOS.out _ (.slice (some ⟨wS.heap.size, 0, none⟩) 1 1) [z] rfl HRD.out hk1 hk2 hbase ?_))
          intro v8 w8 hown8 hg8 hat8
          obtain ⟨A8, c8, rfl⟩ := own_form hown8
          have hsz8 := hg8.size
          have HB8 : Hid (Below w2.heap.size w2 w8) := Lib.hid ((HB2S.out.alloc (by omega) _).grown hg8 (by simp; omega) (fun q hq => by have := (HOS.out.lt q hq).1; omega))
          have hx8 : w8.heap[w2.heap.size]? = some (.cells #[.string s0, .int .i64 a1, .int .i64 b1, .bool false, .slice Av vs.length cv] 67 (0, 0)) := (hg8.block _ (by simp; omega) (fun e => by have := (HOS.out.lt _ e.symm).1; omega)).trans (((Below.refl wS.heap.size wS).alloc (Nat.le_refl _) (.cells #[.int .i64 z.kind, .string z.text, .int .i64 z.lo, .int .i64 z.hi] 60)).block _ (by omega) |>.trans HXS.out)
          have x4 : w8.cell? ⟨w2.heap.size, 4, none⟩ = some (.slice Av vs.length cv) := by simp [World.cell?, hx8]
          have z4 : w8.frozen? ⟨w2.heap.size, 4, none⟩ = false := by simp [World.frozen?, hx8]
          have HX9 := Lib.hid (gset (i := 4) hx8 (.slice A8 (vs.length + 1) c8))
          have HO9 := Lib.hid (ownsRow_setCell_below (own_value hown8) (a := ⟨w2.heap.size, 4, none⟩) (by show w2.heap.size < _; omega) (.slice A8 (vs.length + 1) c8))
          have HB9 := Lib.hid (HB8.out.setCell (p := ⟨w2.heap.size, 4, none⟩) (Nat.le_refl _) (.slice A8 (vs.length + 1) c8))
          have HAL2 : Hid (∀ j u, j < k + 1 → U[j]? = some u → (Sg.valV u.data.toList).isSome = true) := Lib.hid fun j u hj hu => by
            by_cases e : j = k
            · subst e; rw [HS.out] at hu; cases hu; rw [← HQ.out]; rfl
            · exact HALL.out j u (by omega) hu
          clear hown8 hg8 hat8 hx8 x4a y0 y1 y2 y3
          go_wp2_with fail
          go_roundg (U.length - (k + 1))
          case measure => omega
          case rel => exact ⟨k + 1, .slice A8 (vs.length + 1) c8, vs ++ [z], by omega, rfl, by go_num, HB9.out, HX9.out, HO9.out, HNX.out.symm, HAL2.out⟩
      · have HN := Lib.hid (HSGN.out vs (Sg.valsB_to fun j u hj hu => by
          rw [List.getElem?_map] at hu
          obtain ⟨s, hs, rfl⟩ := Option.map_eq_some_iff.1 hu
          exact HALL.out j s (by rw [List.length_map] at hj; omega) hs) (by rw [HVS.out, List.take_of_length_le (by rw [List.length_map]; omega)]))
        have hrS := (HBK.out.block _ hwb).trans HR2.out
        have hxS := HXK.out
        have r0 : wr.cell? ⟨w.heap.size, 0, none⟩ = some (.string ⟨#[]⟩) := by simp [World.cell?, hrS]
        have r1 : wr.cell? ⟨w.heap.size, 1, none⟩ = some (.int .i64 0) := by simp [World.cell?, hrS]
        have r2 : wr.cell? ⟨w.heap.size, 2, none⟩ = some (.int .i64 0) := by simp [World.cell?, hrS]
        have r3 : wr.cell? ⟨w.heap.size, 3, none⟩ = some (.bool false) := by simp [World.cell?, hrS]
        have r4 : wr.cell? ⟨w.heap.size, 4, none⟩ = some (.slice none 0 0) := by simp [World.cell?, hrS]
        have y0 : wr.frozen? ⟨w.heap.size, 0, none⟩ = false := by simp [World.frozen?, hrS]
        have y1 : wr.frozen? ⟨w.heap.size, 1, none⟩ = false := by simp [World.frozen?, hrS]
        have y2 : wr.frozen? ⟨w.heap.size, 2, none⟩ = false := by simp [World.frozen?, hrS]
        have y3 : wr.frozen? ⟨w.heap.size, 3, none⟩ = false := by simp [World.frozen?, hrS]
        have y4 : wr.frozen? ⟨w.heap.size, 4, none⟩ = false := by simp [World.frozen?, hrS]
        have x0 : wr.cell? ⟨w2.heap.size, 0, none⟩ = some (.string s0) := by simp [World.cell?, hxS]
        have x1 : wr.cell? ⟨w2.heap.size, 1, none⟩ = some (.int .i64 a1) := by simp [World.cell?, hxS]
        have x2 : wr.cell? ⟨w2.heap.size, 2, none⟩ = some (.int .i64 b1) := by simp [World.cell?, hxS]
        have x3 : wr.cell? ⟨w2.heap.size, 3, none⟩ = some (.bool false) := by simp [World.cell?, hxS]
        have x4 : wr.cell? ⟨w2.heap.size, 4, none⟩ = some (.slice Av vs.length cv) := by simp [World.cell?, hxS]
        have z0 : wr.frozen? ⟨w2.heap.size, 0, none⟩ = false := by simp [World.frozen?, hxS]
        have z1 : wr.frozen? ⟨w2.heap.size, 1, none⟩ = false := by simp [World.frozen?, hxS]
        have z2 : wr.frozen? ⟨w2.heap.size, 2, none⟩ = false := by simp [World.frozen?, hxS]
        have z3 : wr.frozen? ⟨w2.heap.size, 3, none⟩ = false := by simp [World.frozen?, hxS]
        have z4 : wr.frozen? ⟨w2.heap.size, 4, none⟩ = false := by simp [World.frozen?, hxS]
        have HRX := Lib.hid (rdx_of_own len_value HOK.out)
        clear hrS hxS
        go_wp2_with fail
        refine bodyPost_ret (v := .tuple #[.agg #[.string s0, .int .i64 a1, .int .i64 b1, .bool false, .slice Av vs.length cv], .bool true]) (by simp [results, Tryz.results60, go_sem, r0, r1, r2, r3, r4]) rfl ?_
        rw [HN.out]
        exact ⟨s0, a1, b1, false, Av, vs.length, cv, rfl, ((((HBW.out.setCell (Nat.le_refl _) _).setCell (Nat.le_refl _) _).setCell (Nat.le_refl _) _).setCell (Nat.le_refl _) _).setCell (Nat.le_refl _) _, fun s hs => by
          cases hs
          refine ⟨rfl, rfl, rfl, rfl, rfl, HRX.out.keep fun q hq => ⟨⟨by omega, by simpa using hq.2⟩, ?_⟩⟩
          exact set5 (by omega) _ _ _ _ _⟩
  have HM : Hid (Sg.marked ((x :: r').map (·.data.toList)) = true) := Lib.hid (by simp [Sg.marked, hx])
  have hxe : x.toList = [61] := by rw [Lib.toList_data]; exact hx
  have f3 : w5.cell? ⟨w2.heap.size, 3, none⟩ = some (.bool false) := by simp [World.cell?, HX5.out]
  have g3 : w5.frozen? ⟨w2.heap.size, 3, none⟩ = false := by simp [World.frozen?, HX5.out]
  go_upto_region 11 with fail
  clear hx0 hxe hx
  obtain ⟨w6, hw6⟩ : ∃ w6, w6 = (w5.setCell ⟨w2.heap.size, 3, none⟩ (.bool true)).drew := ⟨_, rfl⟩
  have hx6 : w6.heap[w2.heap.size]? = some (.cells #[.string s0, .int .i64 a1, .int .i64 b1, .bool true, .slice none 0 0] 67 (0, 0)) := by rw [hw6]; exact gset HX5.out _
  have hb6 : Below w2.heap.size w2 w6 := by rw [hw6]; exact (HB5.out.setCell (Nat.le_refl _) _).drew
  have HX6 := Lib.hid hx6
  have HB6 := Lib.hid hb6
  have HW6 := Lib.hid hw6
  clear hx6 hb6 hw6
  rcases r' with _ | ⟨x2, r2⟩
  · have HU : Hid (Sg.unmarked (([x] : List ByteArray).map (·.data.toList)) = []) := Lib.hid (by unfold Sg.unmarked; rw [HM.out]; rfl)
    by_cases hc3 : c = 3 <;> (
    go_region
    go_upto_region 12 with fail
    rw [← HW6.out]
    have HN : Hid (Sg.signL ws = some ⟨s0, a1, b1, true, []⟩) := Lib.hid (by rw [HWS.out, Sg.signL_some HLO.out.symm HTV.out (by rw [HU.out]; rfl), HM.out, HU.out]; rfl)
    have hrr := (HB6.out.block _ hwb).trans HR2.out
    have hxx := HX6.out
    have r0 : w6.cell? ⟨w.heap.size, 0, none⟩ = some (.string ⟨#[]⟩) := by simp [World.cell?, hrr]
    have r1 : w6.cell? ⟨w.heap.size, 1, none⟩ = some (.int .i64 0) := by simp [World.cell?, hrr]
    have r2 : w6.cell? ⟨w.heap.size, 2, none⟩ = some (.int .i64 0) := by simp [World.cell?, hrr]
    have r3 : w6.cell? ⟨w.heap.size, 3, none⟩ = some (.bool false) := by simp [World.cell?, hrr]
    have r4 : w6.cell? ⟨w.heap.size, 4, none⟩ = some (.slice none 0 0) := by simp [World.cell?, hrr]
    have y0 : w6.frozen? ⟨w.heap.size, 0, none⟩ = false := by simp [World.frozen?, hrr]
    have y1 : w6.frozen? ⟨w.heap.size, 1, none⟩ = false := by simp [World.frozen?, hrr]
    have y2 : w6.frozen? ⟨w.heap.size, 2, none⟩ = false := by simp [World.frozen?, hrr]
    have y3 : w6.frozen? ⟨w.heap.size, 3, none⟩ = false := by simp [World.frozen?, hrr]
    have y4 : w6.frozen? ⟨w.heap.size, 4, none⟩ = false := by simp [World.frozen?, hrr]
    have x0 : w6.cell? ⟨w2.heap.size, 0, none⟩ = some (.string s0) := by simp [World.cell?, hxx]
    have x1 : w6.cell? ⟨w2.heap.size, 1, none⟩ = some (.int .i64 a1) := by simp [World.cell?, hxx]
    have x2 : w6.cell? ⟨w2.heap.size, 2, none⟩ = some (.int .i64 b1) := by simp [World.cell?, hxx]
    have x3 : w6.cell? ⟨w2.heap.size, 3, none⟩ = some (.bool true) := by simp [World.cell?, hxx]
    have x4 : w6.cell? ⟨w2.heap.size, 4, none⟩ = some (.slice none 0 0) := by simp [World.cell?, hxx]
    have z0 : w6.frozen? ⟨w2.heap.size, 0, none⟩ = false := by simp [World.frozen?, hxx]
    have z1 : w6.frozen? ⟨w2.heap.size, 1, none⟩ = false := by simp [World.frozen?, hxx]
    have z2 : w6.frozen? ⟨w2.heap.size, 2, none⟩ = false := by simp [World.frozen?, hxx]
    have z3 : w6.frozen? ⟨w2.heap.size, 3, none⟩ = false := by simp [World.frozen?, hxx]
    have z4 : w6.frozen? ⟨w2.heap.size, 4, none⟩ = false := by simp [World.frozen?, hxx]
    have HBF := Lib.hid (HB2.out.trans (HB6.out.mono (by omega)))
    clear hrr hxx
    go_wp2_with fail
    refine wp_loop_rounds 1 ?_
    rw [rounds_succ]
    go_wp2_with fail
    refine bodyPost_ret (v := .tuple #[.agg #[.string s0, .int .i64 a1, .int .i64 b1, .bool true, .slice none 0 0], .bool true]) (by simp [results, Tryz.results60, go_sem, r0, r1, r2, r3, r4]) rfl ?_
    rw [HN.out]
    exact ⟨s0, a1, b1, true, none, 0, 0, rfl, ((((HBF.out.setCell (Nat.le_refl _) _).setCell (Nat.le_refl _) _).setCell (Nat.le_refl _) _).setCell (Nat.le_refl _) _).setCell (Nat.le_refl _) _, fun s hs => by cases hs; exact ⟨rfl, rfl, rfl, rfl, rfl, RdX_nilV _ _⟩⟩)
  · have hc3 : ¬ c = 3 := by simp only [List.length_cons] at hc2'; omega
    go_region
    go_upto_region 12 with fail
    rw [← HW6.out]
    clear f3 g3
    obtain ⟨U, hU⟩ : ∃ U, U = x2 :: r2 := ⟨_, rfl⟩
    have hul : r2.length + 1 = U.length := by rw [hU]; rfl
    rw [hul]
    have HUM : Hid (Sg.unmarked ((x :: x2 :: r2).map (·.data.toList)) = U.map (·.data.toList)) := Lib.hid (by unfold Sg.unmarked; rw [HM.out, hU]; rfl)
    have HUW : Hid (∀ (k : Nat) (s : ByteArray) (W : World), U[k]? = some s → Below w2.heap.size w2 W → W.cell? ⟨b, off + 2 + 1 + k, none⟩ = some (.string s)) := Lib.hid fun k s W h hW => by
      rw [hU] at h
      have := HWR.out (k + 1) s W (by simpa using h) hW
      rwa [show off + 2 + (k + 1) = off + 2 + 1 + k by omega] at this
    have HUZ : Hid (∀ s ∈ U, s.size ≤ 1000000 ∧ (10 : UInt8) ∉ s.data.toList) := Lib.hid fun s hs => HZR.out s (by rw [hU] at hs; simp at hs ⊢; exact .inr hs)
    have hun : U.length ≤ 1000001 := by rw [hU]; simp only [List.length_cons] at hrn ⊢; omega
    have HSGN : Hid (∀ vs, Sg.valsB (U.map (·.data.toList)) = true → Sg.valsOf (U.map (·.data.toList)) = vs → Sg.signL ws = some ⟨s0, a1, b1, true, vs⟩) := Lib.hid fun vs h1 h2 => by
      rw [HWS.out, Sg.signL_some HLO.out.symm HTV.out (by rw [HUM.out]; exact h1), HM.out, HUM.out, h2]; rfl
    have HSB : Hid (∀ (k : Nat) (s : ByteArray), U[k]? = some s → Sg.valV s.data.toList = none → Sg.signL ws = none) := Lib.hid fun k s h hv => by
      rw [HWS.out]
      exact Sg.signL_vals (by rw [HUM.out]; exact Sg.valsB_not (k := k) (w := s.data.toList) (by rw [List.getElem?_map, h]; rfl) hv)
    obtain ⟨i1, hi1, hz1, hs1', hb1⟩ := info_parts info_Value
    clear hU hul
    go_wp2_with fail
    go_loopg [61] U.length (fun g i wr => ∃ (k : Nat) (vv : Value) (vs : List Sg.Value), k ≤ U.length ∧ g = U.length - k ∧ i = .int .i64 k ∧ Below w2.heap.size w2 wr ∧ wr.heap[w2.heap.size]? = some (.cells #[.string s0, .int .i64 a1, .int .i64 b1, .bool true, vv] 67 (0, 0)) ∧ wr.ownsRow (w2.heap.size + 1) 60 4 vv vs.length (vs.flatMap encValue) ∧ vs = Sg.valsOf ((U.map (·.data.toList)).take k) ∧ ∀ j s, j < k → U[j]? = some s → (Sg.valV s.data.toList).isSome = true)
    case atStart => exact ⟨0, .slice none 0 0, [], Nat.zero_le _, rfl, rfl, HB6.out, HX6.out, World.ownsRow_nil _ _ _ _, rfl, fun j s hj => absurd hj (Nat.not_lt_zero j)⟩
    case round =>
      obtain ⟨k, vv, vs, hk, rfl, rfl, hbel, hx, hown, hvs, hall⟩ := hrel
      obtain ⟨Av, cv, rfl⟩ := own_form hown
      have HBK := Lib.hid hbel
      have HXK := Lib.hid hx
      have HOK := Lib.hid hown
      have HVS := Lib.hid hvs
      have HALL := Lib.hid hall
      have hszk : w2.heap.size < wr.heap.size := (Array.getElem?_eq_some_iff.1 hx).1
      have HBW : Hid (Below w.heap.size w wr) := Lib.hid (HB2.out.trans (hbel.mono (by omega)))
      have hvk : vs.length ≤ k := by rw [hvs]; exact Sg.valsOf_len _ _
      clear hbel hx hown hvs hall
      by_cases hlt : k < U.length
      · obtain ⟨s, hs⟩ : ∃ s, U[k]? = some s := ⟨_, List.getElem?_eq_getElem hlt⟩
        have f0 := HUW.out k s wr hs HBK.out
        have hz := HUZ.out s (List.mem_of_getElem? hs)
        have HVC := Lib.hid (gValue_any s wr (HG.out wr HBW.out) hz.1 hz.2)
        obtain ⟨q, hq⟩ : ∃ q, q = Sg.valV s.data.toList := ⟨_, rfl⟩
        rw [← hq] at HVC
        have HS := Lib.hid hs
        have HQ := Lib.hid hq
        have hkI : (0 : Int) ≤ (k : Int) := by omega
        have hkJ : (k : Int) < (U.length : Int) := by omega
        clear hs hz hq
        go_wp2_with fail
        refine HVC.out.mono ?_
        rintro e wv ⟨rfl, hbv⟩
        obtain ⟨z, hz⟩ : ∃ z, z = Sg.valZ q := ⟨_, rfl⟩
        rw [← hz]
        have HZ := Lib.hid hz
        have hszv := hbv.size
        obtain ⟨wS, hwS⟩ : ∃ wS, wS = wv.alloc (.cells #[.int .i64 z.kind, .string z.text, .int .i64 z.lo, .int .i64 z.hi] 60) := ⟨_, rfl⟩
        have hbS : Below wv.heap.size wv wS := by rw [hwS]; exact (Below.refl _ _).alloc (Nat.le_refl _) _
        have hvb : wS.heap[wv.heap.size]? = some (.cells #[.int .i64 z.kind, .string z.text, .int .i64 z.lo, .int .i64 z.hi] 60 (0, 0)) := by rw [hwS]; exact heap_alloc_new _ _
        have hszS : wv.heap.size < wS.heap.size := by rw [hwS]; simp
        have hbkS : Below wr.heap.size wr wS := hbv.trans (hbS.mono hszv)
        have HBKS := Lib.hid hbkS
        have hxS := (hbkS.block _ hszk).trans HXK.out
        have hrS := (hbkS.block w.heap.size (by omega)).trans ((HBK.out.block _ hwb).trans HR2.out)
        have HB2S : Hid (Below w2.heap.size w2 wS) := Lib.hid (HBK.out.trans (hbkS.mono (by omega)))
        have HBWS : Hid (Below w.heap.size w wS) := Lib.hid (HBW.out.trans (hbkS.mono (by omega)))
        have HWS2 := Lib.hid hwS
        have HXS := Lib.hid hxS
        clear hz hwS
        go_upto_region 16 with fail
        rw [← HWS2.out]
        clear f0 hbv hbS hbkS
        rcases q with _ | vz
        · have HN := Lib.hid (HSB.out k s HS.out HQ.out.symm)
          have r0 : wS.cell? ⟨w.heap.size, 0, none⟩ = some (.string ⟨#[]⟩) := by simp [World.cell?, hrS]
          have r1 : wS.cell? ⟨w.heap.size, 1, none⟩ = some (.int .i64 0) := by simp [World.cell?, hrS]
          have r2 : wS.cell? ⟨w.heap.size, 2, none⟩ = some (.int .i64 0) := by simp [World.cell?, hrS]
          have r3 : wS.cell? ⟨w.heap.size, 3, none⟩ = some (.bool false) := by simp [World.cell?, hrS]
          have r4 : wS.cell? ⟨w.heap.size, 4, none⟩ = some (.slice none 0 0) := by simp [World.cell?, hrS]
          have y0 : wS.frozen? ⟨w.heap.size, 0, none⟩ = false := by simp [World.frozen?, hrS]
          have y1 : wS.frozen? ⟨w.heap.size, 1, none⟩ = false := by simp [World.frozen?, hrS]
          have y2 : wS.frozen? ⟨w.heap.size, 2, none⟩ = false := by simp [World.frozen?, hrS]
          have y3 : wS.frozen? ⟨w.heap.size, 3, none⟩ = false := by simp [World.frozen?, hrS]
          have y4 : wS.frozen? ⟨w.heap.size, 4, none⟩ = false := by simp [World.frozen?, hrS]
          have x0 : wS.cell? ⟨w2.heap.size, 0, none⟩ = some (.string s0) := by simp [World.cell?, hxS]
          have x1 : wS.cell? ⟨w2.heap.size, 1, none⟩ = some (.int .i64 a1) := by simp [World.cell?, hxS]
          have x2 : wS.cell? ⟨w2.heap.size, 2, none⟩ = some (.int .i64 b1) := by simp [World.cell?, hxS]
          have x3 : wS.cell? ⟨w2.heap.size, 3, none⟩ = some (.bool true) := by simp [World.cell?, hxS]
          have x4 : wS.cell? ⟨w2.heap.size, 4, none⟩ = some (.slice Av vs.length cv) := by simp [World.cell?, hxS]
          have z0 : wS.frozen? ⟨w2.heap.size, 0, none⟩ = false := by simp [World.frozen?, hxS]
          have z1 : wS.frozen? ⟨w2.heap.size, 1, none⟩ = false := by simp [World.frozen?, hxS]
          have z2 : wS.frozen? ⟨w2.heap.size, 2, none⟩ = false := by simp [World.frozen?, hxS]
          have z3 : wS.frozen? ⟨w2.heap.size, 3, none⟩ = false := by simp [World.frozen?, hxS]
          have z4 : wS.frozen? ⟨w2.heap.size, 4, none⟩ = false := by simp [World.frozen?, hxS]
          clear hrS hxS hvb
          go_wp2_with fail
          refine bodyPost_ret (v := .tuple #[.agg #[.string s0, .int .i64 a1, .int .i64 b1, .bool true, .slice Av vs.length cv], .bool false]) (by simp [results, Tryz.results60, go_sem, r0, r1, r2, r3, r4]) rfl ?_
          exact RetSign.no HN.out (((((HBWS.out.setCell (Nat.le_refl _) _).setCell (Nat.le_refl _) _).setCell (Nat.le_refl _) _).setCell (Nat.le_refl _) _).setCell (Nat.le_refl _) _) _ _ _ _ _ _ _
        · have hzz : z = vz.value := HZ.out
          have HNX : Hid (Sg.valsOf ((U.map (·.data.toList)).take (k + 1)) = vs ++ [z]) := Lib.hid (by
            rw [Sg.valsOf_next (w := s.data.toList) (by rw [List.getElem?_map, HS.out]; rfl) HQ.out.symm, ← HVS.out, hzz])
          have x4a : wS.cell? ⟨w2.heap.size, 4, none⟩ = some (.slice Av vs.length cv) := by simp [World.cell?, hxS]
          have y0 : wS.cell? ⟨wv.heap.size, 0, none⟩ = some (.int .i64 z.kind) := by simp [World.cell?, hvb]
          have y1 : wS.cell? ⟨wv.heap.size, 1, none⟩ = some (.string z.text) := by simp [World.cell?, hvb]
          have y2 : wS.cell? ⟨wv.heap.size, 2, none⟩ = some (.int .i64 z.lo) := by simp [World.cell?, hvb]
          have y3 : wS.cell? ⟨wv.heap.size, 3, none⟩ = some (.int .i64 z.hi) := by simp [World.cell?, hvb]
          have HOS : Hid ((wS.alloc (.cells #[.int .i64 z.kind, .string z.text, .int .i64 z.lo, .int .i64 z.hi] 60)).ownsRow (w2.heap.size + 1) 60 4 (.slice Av vs.length cv) vs.length (vs.flatMap encValue)) := Lib.hid (keep_own HOK.out (HBKS.out.trans ((Below.refl _ _).alloc (by omega) _)))
          have HRD := Lib.hid (rd_one_value wS z)
          have hk1 : vs.length + 1 ≤ maxLen := by simp only [maxLen]; omega
          have hk2 : (vs.length + 1) * 40 ≤ 140737488355328 := by omega
          have hbase : w2.heap.size + 1 ≤ (wS.alloc (.cells #[.int .i64 z.kind, .string z.text, .int .i64 z.lo, .int .i64 z.hi] 60)).heap.size := by simp; omega
          clear hrS hxS hvb hzz
          go_wp2_with (at_builtin; go_must (refine wpList_append_rd (enc := encValue) rfl (.tmp 74) (.tmp 76) _ rfl (w2.heap.size + 1) 60 i1 _ 4 40 len_value one_value Tryz.underlying47 hi1 hz1 hs1' hb1 rfl (by decide) (.slice Av vs.length cv) vs.length (vs.flatMap encValue) rfl HOS.out _ (.slice (some ⟨wS.heap.size, 0, none⟩) 1 1) [z] rfl HRD.out hk1 hk2 hbase ?_))
          intro v8 w8 hown8 hg8 hat8
          obtain ⟨A8, c8, rfl⟩ := own_form hown8
          have hsz8 := hg8.size
          have HB8 : Hid (Below w2.heap.size w2 w8) := Lib.hid ((HB2S.out.alloc (by omega) _).grown hg8 (by simp; omega) (fun q hq => by have := (HOS.out.lt q hq).1; omega))
          have hx8 : w8.heap[w2.heap.size]? = some (.cells #[.string s0, .int .i64 a1, .int .i64 b1, .bool true, .slice Av vs.length cv] 67 (0, 0)) := (hg8.block _ (by simp; omega) (fun e => by have := (HOS.out.lt _ e.symm).1; omega)).trans (((Below.refl wS.heap.size wS).alloc (Nat.le_refl _) (.cells #[.int .i64 z.kind, .string z.text, .int .i64 z.lo, .int .i64 z.hi] 60)).block _ (by omega) |>.trans HXS.out)
          have x4 : w8.cell? ⟨w2.heap.size, 4, none⟩ = some (.slice Av vs.length cv) := by simp [World.cell?, hx8]
          have z4 : w8.frozen? ⟨w2.heap.size, 4, none⟩ = false := by simp [World.frozen?, hx8]
          have HX9 := Lib.hid (gset (i := 4) hx8 (.slice A8 (vs.length + 1) c8))
          have HO9 := Lib.hid (ownsRow_setCell_below (own_value hown8) (a := ⟨w2.heap.size, 4, none⟩) (by show w2.heap.size < _; omega) (.slice A8 (vs.length + 1) c8))
          have HB9 := Lib.hid (HB8.out.setCell (p := ⟨w2.heap.size, 4, none⟩) (Nat.le_refl _) (.slice A8 (vs.length + 1) c8))
          have HAL2 : Hid (∀ j u, j < k + 1 → U[j]? = some u → (Sg.valV u.data.toList).isSome = true) := Lib.hid fun j u hj hu => by
            by_cases e : j = k
            · subst e; rw [HS.out] at hu; cases hu; rw [← HQ.out]; rfl
            · exact HALL.out j u (by omega) hu
          clear hown8 hg8 hat8 hx8 x4a y0 y1 y2 y3
          go_wp2_with fail
          go_roundg (U.length - (k + 1))
          case measure => omega
          case rel => exact ⟨k + 1, .slice A8 (vs.length + 1) c8, vs ++ [z], by omega, rfl, by go_num, HB9.out, HX9.out, HO9.out, HNX.out.symm, HAL2.out⟩
      · have HN := Lib.hid (HSGN.out vs (Sg.valsB_to fun j u hj hu => by
          rw [List.getElem?_map] at hu
          obtain ⟨s, hs, rfl⟩ := Option.map_eq_some_iff.1 hu
          exact HALL.out j s (by rw [List.length_map] at hj; omega) hs) (by rw [HVS.out, List.take_of_length_le (by rw [List.length_map]; omega)]))
        have hrS := (HBK.out.block _ hwb).trans HR2.out
        have hxS := HXK.out
        have r0 : wr.cell? ⟨w.heap.size, 0, none⟩ = some (.string ⟨#[]⟩) := by simp [World.cell?, hrS]
        have r1 : wr.cell? ⟨w.heap.size, 1, none⟩ = some (.int .i64 0) := by simp [World.cell?, hrS]
        have r2 : wr.cell? ⟨w.heap.size, 2, none⟩ = some (.int .i64 0) := by simp [World.cell?, hrS]
        have r3 : wr.cell? ⟨w.heap.size, 3, none⟩ = some (.bool false) := by simp [World.cell?, hrS]
        have r4 : wr.cell? ⟨w.heap.size, 4, none⟩ = some (.slice none 0 0) := by simp [World.cell?, hrS]
        have y0 : wr.frozen? ⟨w.heap.size, 0, none⟩ = false := by simp [World.frozen?, hrS]
        have y1 : wr.frozen? ⟨w.heap.size, 1, none⟩ = false := by simp [World.frozen?, hrS]
        have y2 : wr.frozen? ⟨w.heap.size, 2, none⟩ = false := by simp [World.frozen?, hrS]
        have y3 : wr.frozen? ⟨w.heap.size, 3, none⟩ = false := by simp [World.frozen?, hrS]
        have y4 : wr.frozen? ⟨w.heap.size, 4, none⟩ = false := by simp [World.frozen?, hrS]
        have x0 : wr.cell? ⟨w2.heap.size, 0, none⟩ = some (.string s0) := by simp [World.cell?, hxS]
        have x1 : wr.cell? ⟨w2.heap.size, 1, none⟩ = some (.int .i64 a1) := by simp [World.cell?, hxS]
        have x2 : wr.cell? ⟨w2.heap.size, 2, none⟩ = some (.int .i64 b1) := by simp [World.cell?, hxS]
        have x3 : wr.cell? ⟨w2.heap.size, 3, none⟩ = some (.bool true) := by simp [World.cell?, hxS]
        have x4 : wr.cell? ⟨w2.heap.size, 4, none⟩ = some (.slice Av vs.length cv) := by simp [World.cell?, hxS]
        have z0 : wr.frozen? ⟨w2.heap.size, 0, none⟩ = false := by simp [World.frozen?, hxS]
        have z1 : wr.frozen? ⟨w2.heap.size, 1, none⟩ = false := by simp [World.frozen?, hxS]
        have z2 : wr.frozen? ⟨w2.heap.size, 2, none⟩ = false := by simp [World.frozen?, hxS]
        have z3 : wr.frozen? ⟨w2.heap.size, 3, none⟩ = false := by simp [World.frozen?, hxS]
        have z4 : wr.frozen? ⟨w2.heap.size, 4, none⟩ = false := by simp [World.frozen?, hxS]
        have HRX := Lib.hid (rdx_of_own len_value HOK.out)
        clear hrS hxS
        go_wp2_with fail
        refine bodyPost_ret (v := .tuple #[.agg #[.string s0, .int .i64 a1, .int .i64 b1, .bool true, .slice Av vs.length cv], .bool true]) (by simp [results, Tryz.results60, go_sem, r0, r1, r2, r3, r4]) rfl ?_
        rw [HN.out]
        exact ⟨s0, a1, b1, true, Av, vs.length, cv, rfl, ((((HBW.out.setCell (Nat.le_refl _) _).setCell (Nat.le_refl _) _).setCell (Nat.le_refl _) _).setCell (Nat.le_refl _) _).setCell (Nat.le_refl _) _, fun s hs => by
          cases hs
          refine ⟨rfl, rfl, rfl, rfl, rfl, HRX.out.keep fun q hq => ⟨⟨by omega, by simpa using hq.2⟩, ?_⟩⟩
          exact set5 (by omega) _ _ _ _ _⟩
end Go.Proofs.YtkmimjngmfdpmaaGreatDoor
