/- strconv.Itoa, slices.Index over ints, signs.Name. ostraconlaw01.works. -/
import Derived.Test.YtkmimjngmfdpmaaGreatDoorMpSgBear
import Derived.Lib.AppendIntMem
import Derived.Lib.ItoaLen
import Derived.Test.YtkmimjngmfdpmaaGreatDoorMpBegin
import Derived.Test.YtkmimjngmfdpmaaGreatDoorMpShelfF
import Derived.Test.YtkmimjngmfdpmaaGreatDoorMpSgParse
namespace Go.Proofs.YtkmimjngmfdpmaaGreatDoor
open Go Go.RowKit

def gpow10 : String := "internal/strconv.uint64pow10"
theorem gpow10_named : ∃ g, Tryz.prog.globalNamed gpow10 = some g := Option.isSome_iff_exists.1 (by kernel_rfl : (Tryz.prog.globalNamed gpow10).isSome = true)
/-- the table of powers is laid -/
def GTab (w : World) : Prop := Lib.TabIs Tryz.prog w gpow10 .u64 Lib.pow10Tab
theorem GTab.below {w W : World} (h : GTab w) (hb : Below w.heap.size w W) : GTab W := by
  obtain ⟨g, hg⟩ := gpow10_named
  unfold GTab Lib.TabIs World.var? at h ⊢
  rw [hg] at h ⊢
  simp only [Option.bind_some] at h ⊢
  have hlt : g < w.heap.size := by
    rcases Nat.lt_or_ge g w.heap.size with h' | h'
    · exact h'
    · simp [Array.getElem?_eq_none h'] at h
  rw [hb.block g hlt]
  exact h
theorem gItoa_any (n : Int) (hn : 0 ≤ n ∧ n ≤ 100000) (W : World) (h : GTab W) : Calls Tryz.prog 54 #[.int .i64 n] W (fun e w' => e = .returned (.string (Sg.bs (Lib.itoa n))) ∧ Below W.heap.size W w') := by
  refine (Tryz.strconv_Itoa n (by omega) (by omega) W h).mono ?_
  rintro e w' ⟨rfl, k, os, rfl⟩
  exact ⟨rfl, Lib.below_grow _ _ (Nat.le_refl _) _ _⟩
theorem Sg.place_idx (x : Int) : ∀ (zs : List Int) (i : Nat), Lib.idxFrom zs x i = if Sg.placeOf zs x < 0 then -1 else Sg.placeOf zs x + i
  | [], i => rfl
  | a :: zs, i => by
    rw [Lib.idxFrom, Sg.placeOf]
    by_cases h : a = x
    · simp [h]
    · have ih := Sg.place_idx x zs (i + 1)
      by_cases h2 : Sg.placeOf zs x < 0
      · simp [h, h2, ih]
      · have h3 : ¬ Sg.placeOf zs x + 1 < 0 := by omega
        simp only [h, if_false, h2, ih, h3]
        push_cast
        omega
theorem Sg.place_ge (x : Int) : ∀ zs : List Int, -1 ≤ Sg.placeOf zs x ∧ Sg.placeOf zs x < zs.length
  | [] => ⟨Int.le_refl _, by simp [Sg.placeOf]⟩
  | a :: zs => by
    have ih := Sg.place_ge x zs
    rw [Sg.placeOf]
    simp only [List.length_cons]
    split
    · omega
    · split
      · omega
      · omega
theorem Sg.place_all (x : Int) (zs : List Int) : Lib.idxOf zs x = Sg.placeOf zs x := by
  have h := Sg.place_ge x zs
  rw [Lib.idxOf, Sg.place_idx]
  split
  · omega
  · push_cast
    omega
theorem gIdx_any {B : Nat} (v : Value) (q : List Int) (x : Int) (w : World) (h : RdS w B 1 encInt v q) (hq : q.length ≤ 100000) : Calls Tryz.prog 52 #[v, .int .i64 x] w (fun e w' => e = .returned (.int .i64 (Sg.placeOf q x)) ∧ w' = w) := by
  obtain ⟨A, c, rfl, hl, hc, hh⟩ := h
  rw [← Sg.place_all]
  rcases Nat.eq_zero_or_pos q.length with h0 | h0
  · obtain rfl : q = [] := List.length_eq_zero_iff.1 h0
    exact Tryz.slices_Index_int_empty A c x w
  · obtain ⟨b, off, rfl, hb, hcell⟩ := hh h0
    have := Tryz.slices_Index_int b off q.length c q x w (Nat.le_refl _) (by omega) (fun j hj => by
      have h1 : q[j]? = some (q.getD j 0) := by rw [List.getD, List.getElem?_eq_getElem hj]; rfl
      have := hcell j _ h1 0 _ rfl
      simpa using this)
    rwa [List.take_of_length_le (Nat.le_refl _)] at this
def RetSE (q : ByteArray × Int) (w : World) (e : Ending) (w' : World) : Prop := e = .returned (.tuple #[.string q.1, .int .i64 q.2]) ∧ Below w.heap.size w w'
theorem RetSE.of {q : ByteArray × Int} {a : ByteArray} {b : Int} {w w' : World} (hq : q = (a, b)) (hb : Below w.heap.size w w') : RetSE q w (.returned (.tuple #[.string a, .int .i64 b])) w' := by subst hq; exact ⟨rfl, hb⟩
set_option maxRecDepth 100000 in
set_option maxHeartbeats 4000000 in
theorem gName_any (v : Value) (l : Sg.SList) (sg : Int) (t : ByteArray) (per : Int) (w : World) (hr : RdSL w w.heap.size v l) (ht : t.size ≤ 1000000) (hg : GTab w) : Calls Tryz.prog 18 #[v, .int .i64 sg, .string t, .int .i64 per] w (RetSE (Sg.nameV l sg t per) w) := by
  have HRL := Lib.hid hr
  have HG := Lib.hid fun (W : World) (hW : Below w.heap.size w W) => hg.below hW
  obtain ⟨⟨u, rfl, hgl⟩, hf⟩ := hr
  have hn0 := hgl.len
  obtain ⟨A0, c0, rfl⟩ := hgl.form
  obtain ⟨W1, hW1⟩ : ∃ W1, W1 = w.alloc (.cells #[.int .i64 l.periods, .slice A0 l.signs.length c0] 24) := ⟨_, rfl⟩
  have hb1 : Below w.heap.size w W1 := by rw [hW1]; exact (Below.refl _ _).alloc (Nat.le_refl _) _
  have hX : W1.heap[w.heap.size]? = some (.cells #[.int .i64 l.periods, .slice A0 l.signs.length c0] 24 (0, 0)) := by rw [hW1]; exact heap_alloc_new _ _
  have hs1 : w.heap.size < W1.heap.size := (Array.getElem?_eq_some_iff.1 hX).1
  have CX : Hid (∀ W, Below W1.heap.size W1 W → W.cell? ⟨w.heap.size, 0, none⟩ = some (.int .i64 l.periods) ∧ W.cell? ⟨w.heap.size, 1, none⟩ = some (.slice A0 l.signs.length c0)) := Lib.hid fun W hW => by
    have p := (hW.block _ hs1).trans hX
    exact ⟨by simp [World.cell?, p], by simp [World.cell?, p]⟩
  obtain ⟨x0, x1⟩ := CX.out W1 (Below.refl _ _)
  have HB1 := Lib.hid hb1
  have HW1 := Lib.hid hW1
  have HCK := Lib.hid (gCheck_any _ l W1 (HRL.out.on hb1))
  obtain ⟨e1, he1⟩ : ∃ e1, e1 = Sg.checkV l := ⟨_, rfl⟩
  have HNV : Hid (Sg.nameV l sg t per = if Sg.valuesE l sg per ≠ 0 then (⟨#[]⟩, Sg.valuesE l sg per) else Sg.nameAt (Sg.placeOf (Sg.bearV l.signs 1 t per) sg) t) := Lib.hid rfl
  have HVE : Hid (Sg.valuesE l sg per = if e1 ≠ 0 then e1 else if Sg.signBad l sg then 1 else Sg.perE l per) := Lib.hid (by rw [he1]; unfold Sg.valuesE Sg.perE; rfl)
  have HC0 : Hid (e1 = 0 → l.signs.length ≤ 200) := Lib.hid fun h => by
    rw [he1] at h
    unfold Sg.checkV at h
    refine Decidable.byContradiction fun hc => ?_
    rw [if_pos (by omega)] at h
    cases h
  rw [← he1] at HCK
  generalize Sg.nameV l sg t per = res at HNV ⊢
  clear hW1 hb1 hX hgl hf he1 hg
  go_enter Tryz.func18, Tryz.ntmps18
  go_upto_region 1 with fail
  rw [← HW1.out]
  go_wp2_with fail
  refine HCK.out.mono ?_
  rintro e w2 ⟨rfl, hb2⟩
  have HB2 := Lib.hid (HB1.out.trans (hb2.mono (by omega)))
  obtain ⟨x0, x1⟩ := CX.out w2 hb2
  have H12 := Lib.hid hb2
  have hs2 := hb2.size
  clear hb2
  by_cases h0 : e1 = 0
  case neg =>
    have HN : Hid (res = (⟨#[]⟩, e1)) := Lib.hid (by rw [HNV.out, HVE.out, if_pos h0, if_pos h0])
    go_wp2_with fail
    go_ret2
    exact RetSE.of HN.out HB2.out
  subst h0
  have hsl := HC0.out rfl
  by_cases hsb : Sg.signBad l sg
  · have hv1 : Sg.valuesE l sg per = 1 := by rw [HVE.out, if_neg (by simp), if_pos hsb]
    have HN : Hid (res = (⟨#[]⟩, 1)) := Lib.hid (by rw [HNV.out, hv1, if_pos (by decide)])
    clear hv1
    have hor : sg < 0 ∨ (¬ sg < 0 ∧ (l.signs.length : Int) ≤ sg) := by unfold Sg.signBad at hsb; omega
    clear hsb
    rcases hor with h1 | ⟨h1, h2⟩
    all_goals
      go_wp2_with fail
      go_ret2
      exact RetSE.of HN.out HB2.out
  have HVE2 : Hid (Sg.valuesE l sg per = Sg.perE l per) := Lib.hid (by rw [HVE.out, if_neg (by simp), if_neg hsb])
  obtain ⟨q1, q2⟩ : ¬ sg < 0 ∧ ¬ (l.signs.length : Int) ≤ sg := by unfold Sg.signBad at hsb; omega
  obtain ⟨e2, he2⟩ : ∃ e2, e2 = Sg.perE l per := ⟨_, rfl⟩
  have HCP := Lib.hid fun W => gCheckPeriod_any l A0 l.signs.length c0 per W
  rw [← he2] at HCP HVE2
  clear hsb he2
  go_wp2_with fail
  refine (HCP.out _).mono ?_
  rintro e w3 ⟨rfl, hb3⟩
  have HB3 := Lib.hid (HB2.out.trans (hb3.mono HB2.out.size))
  have H13 := Lib.hid (H12.out.trans (hb3.mono hs2))
  obtain ⟨x0, x1⟩ := CX.out w3 H13.out
  have hs3 := hb3.size
  clear hb3
  by_cases h0 : e2 = 0
  case neg =>
    have HN : Hid (res = (⟨#[]⟩, e2)) := Lib.hid (by rw [HNV.out, HVE2.out, if_pos h0])
    go_wp2_with fail
    go_ret2
    exact RetSE.of HN.out HB3.out
  subst h0
  have HN0 : Hid (res = Sg.nameAt (Sg.placeOf (Sg.bearV l.signs 1 t per) sg) t) := Lib.hid (by rw [HNV.out, HVE2.out, if_neg (by simp)])
  have HBL := Lib.hid (gBearersL_any _ l 1 t per w3 (HRL.out.on HB3.out) (by omega))
  obtain ⟨q, hq⟩ : ∃ q, q = Sg.bearV l.signs 1 t per := ⟨_, rfl⟩
  have hql : q.length ≤ 200 := by
    rw [hq]
    have := Sg.bearTo_len l.signs 1 t per l.signs.length
    exact Nat.le_trans this hsl
  rw [← hq] at HBL HN0
  clear hq
  go_wp2_with fail
  refine HBL.out.mono ?_
  rintro e w4 ⟨v4, rfl, hown, hb4⟩
  have HB4 := Lib.hid (HB3.out.trans (hb4.mono HB3.out.size))
  have HIX := Lib.hid (gIdx_any _ q sg w4 (rds_of_own len_int hown) (by omega))
  have hpg := Sg.place_ge sg q
  obtain ⟨pl, hpl⟩ : ∃ pl, pl = Sg.placeOf q sg := ⟨_, rfl⟩
  rw [← hpl] at HIX HN0 hpg
  clear hb4 hown hpl x0 x1
  go_wp2_with fail
  refine HIX.out.mono ?_
  rintro e w5 ⟨rfl, rfl⟩
  by_cases hp1 : pl = -1
  · have HN : Hid (res = (⟨#[]⟩, 3)) := Lib.hid (by rw [HN0.out, hp1]; rfl)
    subst hp1
    clear hpg
    go_wp2_with fail
    go_ret2
    exact RetSE.of HN.out HB4.out
  by_cases hp0 : pl = 0
  · have HN : Hid (res = (t, 0)) := Lib.hid (by rw [HN0.out, hp0]; rfl)
    subst hp0
    clear hpg
    go_wp2_with fail
    go_ret2
    exact RetSE.of HN.out HB4.out
  have HN : Hid (res = (t ++ Sg.bs (Lib.itoa (pl + 1)), 0)) := Lib.hid (by rw [HN0.out]; unfold Sg.nameAt; rw [if_neg (by omega), if_neg hp0])
  have h1 : (pl == -1) = false := by rw [beq_eq_false_iff_ne]; exact hp1
  have h2 : (pl == 0) = false := by rw [beq_eq_false_iff_ne]; exact hp0
  have hp2 : pl + 1 ≤ 200 := by omega
  have hp3 : 0 ≤ pl := by omega
  have HIT := Lib.hid (gItoa_any (pl + 1) (by omega) _ (HG.out _ HB4.out))
  have hil : (Sg.bs (Lib.itoa (pl + 1))).size ≤ 21 := by show (Lib.itoa (pl + 1)).length ≤ 21; exact Lib.itoa_length_le (pl + 1) (by omega) (by omega)
  generalize Sg.bs (Lib.itoa (pl + 1)) = sfx at HN HIT hil
  clear hpg hp1 hp0
  go_wp2_with fail
  refine HIT.out.mono ?_
  rintro e w6 ⟨rfl, hb6⟩
  have HB6 := Lib.hid (HB4.out.trans (hb6.mono HB4.out.size))
  clear hb6
  go_wp2_with fail
  go_ret2
  exact RetSE.of HN.out HB6.out
end Go.Proofs.YtkmimjngmfdpmaaGreatDoor
namespace Go.Proofs.YtkmimjngmfdpmaaGreatDoor
open Go Go.RowKit

def Sg.exT : ByteArray := ⟨#[112, 101, 114, 105, 111, 100, 115, 32, 50, 10, 65, 49, 32, 52, 120, 54, 32, 115, 58, 110, 102, 114, 64, 49, 45, 50, 10, 66, 50, 32, 51, 120, 51, 32, 61, 32, 115, 58, 110, 102, 114, 64, 50, 45, 50, 10]⟩
def Sg.exL : Sg.SList := ⟨2, [⟨⟨#[65, 49]⟩, 4, 6, false, [⟨1, ⟨#[110, 102, 114]⟩, 1, 2⟩]⟩, ⟨⟨#[66, 50]⟩, 3, 3, true, [⟨1, ⟨#[110, 102, 114]⟩, 2, 2⟩]⟩]⟩
theorem Sg.ex_parse : Sg.parseV Sg.exT.data.toList = (Sg.exL, 0, 0) := by kernel_rfl
theorem Sg.ex_values : Sg.valuesE Sg.exL 1 2 = 0 := by kernel_rfl
theorem Sg.ex_place : Sg.placeOf (Sg.bearV Sg.exL.signs 1 ⟨#[110, 102, 114]⟩ 2) 1 = 1 := by kernel_rfl
theorem Sg.ex_name : Sg.nameV Sg.exL 1 ⟨#[110, 102, 114]⟩ 2 = (⟨#[110, 102, 114, 50]⟩, 0) := by
  unfold Sg.nameV
  rw [Sg.ex_values, if_neg (by simp), Sg.ex_place]
  unfold Sg.nameAt
  rw [if_neg (by decide), if_neg (by decide)]
  have : Lib.itoa (1 + 1) = [50] := by
    unfold Lib.itoa
    rw [if_neg (by decide)]
    exact Lib.decDigits_one (by decide)
  rw [this]
  rfl
set_option maxRecDepth 100000 in
set_option maxHeartbeats 4000000 in
theorem works1_any (w : World) (hg : Glob w) (ht : GTab w) : Calls Tryz.prog 17 #[] w (RetBB true w) := by
  have HP := Lib.hid (gParse_any Sg.exT w hg (by decide))
  rw [Sg.ex_parse] at HP
  have HG := Lib.hid fun (W : World) (hW : Below w.heap.size w W) => ht.below hW
  clear hg ht
  have HPX : Hid (Calls Tryz.prog 21 #[.string ⟨#[112, 101, 114, 105, 111, 100, 115, 32, 50, 10, 65, 49, 32, 52, 120, 54, 32, 115, 58, 110, 102, 114, 64, 49, 45, 50, 10, 66, 50, 32, 51, 120, 51, 32, 61, 32, 115, 58, 110, 102, 114, 64, 50, 45, 50, 10]⟩] w (RetParse (Sg.exL, 0, 0) w)) := HP
  go_enter Tryz.func17, Tryz.ntmps17
  go_wp2_with fail
  refine HPX.out.mono ?_
  rintro e w1 ⟨v, rfl, hr, hb⟩
  have HRL := Lib.hid hr
  obtain ⟨⟨u, rfl, hgl⟩, -⟩ := hr
  obtain ⟨A0, c0, rfl⟩ := hgl.form
  have HB1 := Lib.hid hb
  obtain ⟨w2, hw2⟩ : ∃ w2, w2 = w1.alloc (.cells #[.int .i64 2, .slice A0 2 c0] 24) := ⟨_, rfl⟩
  have hb2 : Below w1.heap.size w1 w2 := by rw [hw2]; exact (Below.refl _ _).alloc (Nat.le_refl _) _
  have hx2 : w2.heap[w1.heap.size]? = some (.cells #[.int .i64 2, .slice A0 2 c0] 24 (0, 0)) := by rw [hw2]; exact heap_alloc_new _ _
  have x0 : w2.cell? ⟨w1.heap.size, 0, none⟩ = some (.int .i64 2) := by simp [World.cell?, hx2]
  have x1 : w2.cell? ⟨w1.heap.size, 1, none⟩ = some (.slice A0 2 c0) := by simp [World.cell?, hx2]
  have HB2 := Lib.hid (HB1.out.trans (hb2.mono HB1.out.size))
  have HNM := Lib.hid (gName_any (.agg #[.int .i64 2, .slice A0 2 c0]) Sg.exL 1 ⟨#[110, 102, 114]⟩ 2 w2 (HRL.out.on hb2) (by decide) (HG.out w2 HB2.out))
  rw [Sg.ex_name] at HNM
  have HW2 := Lib.hid hw2
  clear hgl hb hw2 hb2 hx2
  have e1 : Sg.exL.periods = 2 := rfl
  have e2 : Sg.exL.signs.length = 2 := rfl
  rw [e1, e2]
  clear e1 e2
  go_upto_region 2 with fail
  rw [← HW2.out]
  go_wp2_with fail
  refine HNM.out.mono ?_
  rintro e w3 ⟨rfl, hb3⟩
  have HB3 := Lib.hid (HB2.out.trans (hb3.mono HB2.out.size))
  clear hb3
  go_wp2_with fail
  go_ret
  exact ⟨rfl, HB3.out⟩
end Go.Proofs.YtkmimjngmfdpmaaGreatDoor
