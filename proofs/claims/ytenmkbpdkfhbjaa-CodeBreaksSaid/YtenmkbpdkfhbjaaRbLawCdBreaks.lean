/- CodeBreaks: a string that is no text breaks at a place up to which it can go on: the walk. -/
import Derived.Test.YtenmkbpdkfhbjaaRbCdBeside
import Derived.Test.YtenmkbpdkfhbjaaRbCdBreakP
namespace Go.Proofs.Ytenmkbpdkfhbjaa
open Go Go.RowKit

theorem far_smallB {l : Sg.SList} {t : ByteArray} (h : Cd.farB l t = false) : Sg.Small l ∧ t.size ≤ 3000 := by
  unfold Cd.farB at h
  rw [Bool.or_eq_false_iff] at h
  have h1 := h.1
  unfold Sg.largeV at h1
  rw [Bool.or_eq_false_iff] at h1
  refine ⟨(Sg.big_small h1.1).1, ?_⟩
  have := of_decide_eq_false h.2
  omega
/-- a list as a value -/
theorem rdsl_shapeB {w : World} {B : Nat} {v : Value} {l : Sg.SList} (h : RdSL w B v l) : ∃ A c, v = .agg #[.int .i64 l.periods, .slice A l.signs.length c] := by
  obtain ⟨⟨u, rfl, hg⟩, -⟩ := h
  obtain ⟨A, c, rfl⟩ := hg.form
  exact ⟨A, c, rfl⟩
theorem bx_frozen {W : World} {Z : Nat} {T : TypeId} {c0 : Value} (h : W.heap[Z]? = some (.cells #[c0] T (0, 0))) : W.frozen? ⟨Z, 0, none⟩ = false := by simp [World.frozen?, h]
theorem take_bytes (t : ByteArray) (k : Nat) : (t.extract 0 k).data.toList = t.data.toList.take k := by
  rw [Lib.extract_data]
  simp
set_option maxRecDepth 100000 in
set_option maxHeartbeats 16000000 in
theorem CodeBreaks_any (p kind : Int) (us : Value) (l : Sg.SList) (t : ByteArray) (w : World) (hr : RdSL w w.heap.size (.agg #[.int .i64 p, us]) l) (ht : t.size ≤ maxLen) :
    Calls Try.prog 3 #[.agg #[.int .i64 p, us, .int .i64 kind, .string t]] w (RetBB true w) := by
  have HL := Lib.hid hr
  obtain ⟨A0, c0, hsh⟩ := rdsl_shapeB hr
  injection hsh with hsh
  injection hsh with hsh
  injection hsh with hp hsh
  injection hp with _ hp
  injection hsh with hsh _
  subst hp hsh
  have HWK : Hid (∀ W, Calls Try.prog 5 #[] W (RetBB true W)) := Lib.hid works3_any
  obtain ⟨Z, hZ⟩ : ∃ Z, Z = w.heap.size := ⟨_, rfl⟩
  have HZ := Lib.hid hZ
  obtain ⟨W1, hW1⟩ : ∃ W1, W1 = w.alloc (.cells #[.int .i64 l.periods, .slice A0 l.signs.length c0, .int .i64 kind, .string t] 26) := ⟨_, rfl⟩
  have hbl : Below w.heap.size w W1 := by rw [hW1]; exact (Below.refl _ _).alloc (Nat.le_refl _) _
  have b1 : W1.heap[Z]? = some (.cells #[.int .i64 l.periods, .slice A0 l.signs.length c0, .int .i64 kind, .string t] 26 (0, 0)) := by rw [hW1, hZ]; exact heap_alloc_new _ _
  have hz1 : Z < W1.heap.size := lt_of_some b1
  have HLX : Hid (∀ W, Below W1.heap.size W1 W → RdSL W W.heap.size (.agg #[.int .i64 l.periods, .slice A0 l.signs.length c0]) l) := Lib.hid fun W q => by
    have hb := hbl.trans (q.mono hbl.size)
    exact HL.out.keep hb.size hb
  have HBW : Hid (∀ W, Below W1.heap.size W1 W → Below w.heap.size w W) := Lib.hid fun W q => hbl.trans (q.mono hbl.size)
  have HX : Hid (∀ W, Below W1.heap.size W1 W → W.cell? ⟨Z, 0, none⟩ = some (.int .i64 l.periods) ∧ W.cell? ⟨Z, 1, none⟩ = some (.slice A0 l.signs.length c0) ∧ W.cell? ⟨Z, 2, none⟩ = some (.int .i64 kind) ∧ W.cell? ⟨Z, 3, none⟩ = some (.string t)) := Lib.hid fun W q => box4_cells ((q.block Z hz1).trans b1)
  have HFIN : Hid (∀ W W', Below W1.heap.size W1 W → Below W.heap.size W W' → RetBB true w (.returned (.bool true)) W') := Lib.hid fun W W' q1 q2 => ⟨rfl, HBW.out W' (q1.trans (q2.mono q1.size))⟩
  obtain ⟨bf, hbf⟩ : ∃ bf, bf = Cd.farB l t := ⟨_, rfl⟩
  have HFAR : Hid (Calls Try.prog 4 #[.agg #[.int .i64 l.periods, .slice A0 l.signs.length c0, .int .i64 kind, .string t]] W1 (RetBB bf W1)) := Lib.hid (hbf ▸ law3far_any l.periods kind _ l t W1 (HLX.out W1 (Below.refl _ _)))
  have HBF := Lib.hid hbf
  have HW1 := Lib.hid hW1
  obtain ⟨x0, x1, x2, x3⟩ := HX.out W1 (Below.refl _ _)
  clear hZ hW1 hbl b1 hbf hr
  go_enter Try.func3, Try.ntmps3
  go_upto_region 1 with fail
  rw [← HZ.out, ← HW1.out]
  go_wp2_with fail
  refine HFAR.out.mono ?_
  rintro e w2 ⟨rfl, hb2⟩
  have HB2 := Lib.hid hb2
  clear hb2 x0 x1 x2 x3 HFAR
  cases bf
  case true =>
    go_wp2_with fail
    refine (HWK.out w2).mono ?_
    rintro e w3 ⟨rfl, hb3⟩
    have HB3 := Lib.hid hb3
    clear hb3
    go_wp2_with fail
    go_ret
    exact HFIN.out w2 w3 HB2.out HB3.out
  obtain ⟨x0, x1, x2, x3⟩ := HX.out w2 HB2.out
  by_cases ht4 : 400 < t.size
  · have ht4I : (400 : Int) < (t.size : Int) := by omega
    clear ht4
    go_wp2_with fail
    refine (HWK.out w2).mono ?_
    rintro e w3 ⟨rfl, hb3⟩
    have HB3 := Lib.hid hb3
    clear hb3
    go_wp2_with fail
    go_ret
    exact HFIN.out w2 w3 HB2.out HB3.out
  have ht4I : ¬ (400 : Int) < (t.size : Int) := by omega
  have ht4N : t.size ≤ 400 := by omega
  obtain ⟨hsm, -⟩ := far_smallB HBF.out.symm
  have HCP := Lib.hid (r1Copy_any _ l w2 (HLX.out w2 HB2.out) hsm)
  clear hsm ht4
  go_wp2_with fail
  refine HCP.out.mono ?_
  rintro e w3 ⟨v, rfl, hr3, hb3⟩
  obtain ⟨A3, c3, rfl⟩ := rdsl_shapeB hr3
  have hb23 := HB2.out.trans (hb3.mono HB2.out.size)
  have HB3 := Lib.hid hb23
  have HR3 := Lib.hid hr3
  obtain ⟨x0', x1', x2', x3'⟩ := HX.out w3 hb23
  clear hr3 hb3 hb23 HCP x0 x1 x2 x3
  go_upto_region 4 with fail
  obtain ⟨Y, hY⟩ : ∃ Y, Y = w3.heap.size := ⟨_, rfl⟩
  obtain ⟨W4, hW4⟩ : ∃ W4, W4 = w3.alloc (.cells #[.int .i64 l.periods, .slice A3 l.signs.length c3] 24) := ⟨_, rfl⟩
  rw [← hW4, ← hY]
  have hb4 : Below Y w3 W4 := by rw [hW4, hY]; exact (Below.refl _ _).alloc (Nat.le_refl _) _
  have c4 : W4.heap[Y]? = some (.cells #[.int .i64 l.periods, .slice A3 l.signs.length c3] 24 (0, 0)) := by rw [hW4, hY]; exact heap_alloc_new _ _
  have hy4 : Y < W4.heap.size := lt_of_some c4
  have hy1 : W1.heap.size ≤ Y := by rw [hY]; exact HB3.out.size
  have HBY : Hid (∀ W, Below W4.heap.size W4 W → Below W1.heap.size W1 W ∧ W.cell? ⟨Y, 0, none⟩ = some (.int .i64 l.periods) ∧ W.cell? ⟨Y, 1, none⟩ = some (.slice A3 l.signs.length c3) ∧ RdSL W W.heap.size (.agg #[.int .i64 l.periods, .slice A3 l.signs.length c3]) l ∧ W.cell? ⟨Z, 0, none⟩ = some (.int .i64 l.periods) ∧ W.cell? ⟨Z, 1, none⟩ = some (.slice A0 l.signs.length c0) ∧ W.cell? ⟨Z, 2, none⟩ = some (.int .i64 kind) ∧ W.cell? ⟨Z, 3, none⟩ = some (.string t)) := Lib.hid fun W q => by
    have h1 := HB3.out.trans ((hb4.trans (q.mono (by omega))).mono hy1)
    have h2 := box2_cells ((q.block Y hy4).trans c4)
    have h3 := hb4.trans (q.mono (by omega))
    refine ⟨h1, h2.1, h2.2, HR3.out.keep ?_ ?_, HX.out W h1⟩
    · exact h3.size
    · rw [← hY]; exact h3
  have HRD : Hid (∀ (s : ByteArray) (W : World), s.size ≤ maxLen → Below W4.heap.size W4 W → Calls Try.prog 7 #[.int .i64 kind, .agg #[.int .i64 l.periods, .slice A3 l.signs.length c3], .string s] W (fun e w' => ∃ A m c, e = .returned (.tuple #[.agg #[.slice A m c], .int .i64 (Cd.readV kind l s.data.toList).2.1, .int .i64 (Cd.readV kind l s.data.toList).2.2]) ∧ Below W4.heap.size W4 w' ∧ Below W.heap.size W w')) := Lib.hid fun s W q1 q2 => by
    refine (Read_any kind l _ s q1 W (HBY.out W q2).2.2.2.1).mono ?_
    rintro e w' ⟨A, c, e1, e2, -⟩
    exact ⟨A, _, c, e1, q2.trans (e2.mono q2.size), e2⟩
  clear hW4 hY hb4 c4 x0' x1' x2' x3'
  obtain ⟨-, y0, y1, -, x0, x1, x2, x3⟩ := HBY.out W4 (Below.refl _ _)
  obtain ⟨pt, hpt⟩ : ∃ pt, (Cd.readV kind l t.data.toList).2.1 = pt := ⟨_, rfl⟩
  obtain ⟨er, her⟩ : ∃ er, (Cd.readV kind l t.data.toList).2.2 = er := ⟨_, rfl⟩
  have HR1 := Lib.hid (HRD.out t W4 ht (Below.refl _ _))
  rw [hpt, her] at HR1
  have HPT := Lib.hid hpt
  have HER := Lib.hid her
  clear hpt her
  go_wp2_with fail
  refine HR1.out.mono ?_
  rintro e w5 ⟨A5, m5, c5, rfl, hb5, -⟩
  have HB5 := Lib.hid hb5
  clear hb5 HR1 x0 x1 x2 x3 y0 y1
  go_upto_region 5 with fail
  obtain ⟨W6, hW6⟩ : ∃ W6, W6 = w5.alloc (.cells #[.slice A5 m5 c5] 32) := ⟨_, rfl⟩
  rw [← hW6]
  have hb6 : Below W4.heap.size W4 W6 := by rw [hW6]; exact HB5.out.alloc HB5.out.size _
  have HB6 := Lib.hid hb6
  obtain ⟨hbx, y0, y1, -, x0, x1, x2, x3⟩ := HBY.out W6 hb6
  have HBX := Lib.hid hbx
  clear hW6 hb6 hbx
  by_cases ke : er = 4
  case neg =>
    have t0 : (er == 4) = false := by simp [ke]
    have t0' : (er != 4) = true := by simp [ke]
    clear ke
    go_wp2_with fail
    refine (HWK.out W6).mono ?_
    rintro e w7 ⟨rfl, hb7⟩
    have HB7 := Lib.hid hb7
    clear hb7
    go_wp2_with fail
    go_ret
    exact HFIN.out W6 w7 HBX.out HB7.out
  subst ke
  obtain ⟨k0, kl, kt, kn⟩ := Cd.read_breaks HER.out HPT.out
  obtain ⟨k, rfl⟩ := Int.eq_ofNat_of_zero_le k0
  have hkl : k ≤ t.size := by
    have : (t.data.toList.length : Int) = (t.size : Int) := by simp
    omega
  have hklI : (k : Int) ≤ (t.size : Int) := by omega
  have hk0I : (0 : Int) ≤ (k : Int) := by omega
  have hn1 : ¬ (k : Int) < 0 := by omega
  have hn2 : ¬ (t.size : Int) < (k : Int) := by omega
  rw [Int.toNat_natCast] at kt kn
  obtain ⟨n2, hn2'⟩ : ∃ n2, (Cd.readV kind l (t.data.toList.take k)).2.1 = n2 := ⟨_, rfl⟩
  obtain ⟨f2, hf2'⟩ : ∃ f2, (Cd.readV kind l (t.data.toList.take k)).2.2 = f2 := ⟨_, rfl⟩
  rw [hn2', hf2'] at kt
  have hsz1 : (t.extract 0 k).size ≤ maxLen := by
    have : (t.extract 0 k).size = (t.extract 0 k).data.toList.length := by simp
    rw [this, take_bytes, List.length_take]
    unfold maxLen
    omega
  have hr2 : ∀ W, Below W4.heap.size W4 W → Calls Try.prog 7 #[.int .i64 kind, .agg #[.int .i64 l.periods, .slice A3 l.signs.length c3], .string (t.extract 0 k)] W (fun e w' => ∃ A m c, e = .returned (.tuple #[.agg #[.slice A m c], .int .i64 n2, .int .i64 f2]) ∧ Below W4.heap.size W4 w' ∧ Below W.heap.size W w') := fun W q => by
    have := HRD.out (t.extract 0 k) W hsz1 q
    rw [take_bytes, hn2', hf2'] at this
    exact this
  have HR2 := Lib.hid hr2
  have HKT := Lib.hid kt
  have HKN := Lib.hid kn
  clear hr2 kt kn hn2' hf2' hsz1 kl k0
  have hy6 : Y < W6.heap.size := Nat.lt_of_lt_of_le hy4 HB6.out.size
  have hz6 : Z < W6.heap.size := by omega
  go_upto_region 9 with fail
  go_cut [7, 8, 9] from 44 to 55 (fun _ u v wc => u = .int .i64 n2 ∧ v = .int .i64 f2 ∧ Below W4.heap.size W4 wc)
  case first =>
    go_region_with (first
      | (go_at_call 7; refine (HR2.out ((W6.alloc (.cells #[.slice none 0 0] 32)).drewN 1) ((HB6.out.alloc HB6.out.size _).trans (drew_below 1))).mono ?_; rintro e w7 ⟨A7, m7, c7, rfl, hb7, hc7⟩; have HB7 := Lib.hid hb7; have hbox := (hc7.block W6.heap.size (by show W6.heap.size < (W6.alloc (.cells #[.slice none 0 0] 32)).heap.size; simp)).trans (heap_alloc_new W6 (.cells #[.slice none 0 0] 32)); have bx := bx_cell hbox; have bf := bx_frozen hbox; clear hb7 hc7 hbox)
      | (go_at_call 7; refine (HR2.out (W6.drewN 1) (HB6.out.trans (drew_below 1))).mono ?_; rintro e w7 ⟨A7, m7, c7, rfl, hb7, hc7⟩; have HB7 := Lib.hid hb7; clear hb7 hc7))
    all_goals
      try go_wp2_with fail
      go_meet
      case rel => exact ⟨rfl, rfl, by first | exact HB7.out | exact HB7.out.setCell (p := ⟨W6.heap.size, 0, none⟩) HB6.out.size _ | exact (HB7.out.setCell (p := ⟨W6.heap.size, 0, none⟩) HB6.out.size _).trans (drew_below _) | exact HB7.out.alloc HB7.out.size _ | exact (HB7.out.alloc HB7.out.size _).trans (drew_below _)⟩
  case rest =>
    obtain ⟨rfl, rfl, hb8⟩ := hcut
    have HB8 := Lib.hid hb8
    clear y0 y1 x0 x1 x2 x3
    obtain ⟨hbx, y0, y1, -, x0, x1, x2, x3⟩ := HBY.out wc hb8
    have HBX8 := Lib.hid hbx
    clear hb8 hbx
    have h10 : (f2 == 4) = false ∨ ((f2 == 4) = true ∧ (n2 != (k : Int)) = false) := by
      by_cases q : f2 = 4
      · refine .inr ⟨by simp [q], ?_⟩
        rw [HKT.out q]
        simp
      · exact .inl (by simp [q])
    have H10 := Lib.hid h10
    clear h10
    go_upto_region 10 with fail
    go_cut [62] from 56 to 61 (fun v wd => v = .bool false ∧ wd = wc)
    case first =>
      rcases H10.out with q | ⟨q, q'⟩
      · go_wp2_with fail
        go_meet
        case rel => exact ⟨rfl, rfl⟩
      · go_wp2_with fail
        go_meet
        case rel => exact ⟨rfl, rfl⟩
    case rest =>
      obtain ⟨rfl, hwc⟩ := hcut
      replace hwc := hwc.symm
      subst hwc
      by_cases hlt : k < t.size
      · have hltI : (k : Int) < (t.size : Int) := by omega
        obtain ⟨j, hj⟩ : ∃ j : Nat, j = k + 1 := ⟨_, rfl⟩
        have hjk : (k : Int) + 1 = (j : Int) := by omega
        have hk1I : (j : Int) ≤ (t.size : Int) := by omega
        have hk10 : (0 : Int) ≤ (j : Int) := by omega
        have hwr : IntKind.i64.wrap ((j : Nat) : Int) = (j : Int) := by rw [IntKind.wrap_i64]; omega
        have hsz2 : (t.extract 0 j).size ≤ maxLen := by
          have : (t.extract 0 j).size = (t.extract 0 j).data.toList.length := by simp
          rw [this, take_bytes, List.length_take]
          unfold maxLen
          omega
        have hkn := HKN.out (by
          have : (t.data.toList.length : Int) = (t.size : Int) := by simp
          omega)
        rw [← hj] at hkn
        have hr3 : ∀ W, Below W4.heap.size W4 W → Calls Try.prog 7 #[.int .i64 kind, .agg #[.int .i64 l.periods, .slice A3 l.signs.length c3], .string (t.extract 0 j)] W (fun e w' => ∃ A m c, e = .returned (.tuple #[.agg #[.slice A m c], .int .i64 (k : Int), .int .i64 4]) ∧ Below W4.heap.size W4 w' ∧ Below W.heap.size W w') := fun W q => by
          have := HRD.out (t.extract 0 j) W hsz2 q
          rw [take_bytes, hkn.1, hkn.2] at this
          exact this
        have HR3' := Lib.hid hr3
        clear hr3 hkn hsz2 hj
        go_upto_region 13 with fail
        go_cut [8, 9] from 68 to 80 (fun u v wd => u = .int .i64 (k : Int) ∧ v = .int .i64 4 ∧ Below W4.heap.size W4 wd)
        case first =>
          go_region_with (go_at_call 7; refine (HR3'.out _ (HB8.out.trans (drew_below 1))).mono ?_; rintro e w9 ⟨A9, m9, c9, rfl, hb9, -⟩; have HB9 := Lib.hid hb9; clear hb9)
          all_goals
            try go_wp2_with fail
            go_meet
            case rel => exact ⟨rfl, rfl, HB9.out⟩
        case rest =>
          obtain ⟨rfl, rfl, hb9⟩ := hcut
          have HBX9 := Lib.hid (HBY.out _ hb9).1
          clear hb9
          go_wp2_with fail
          refine (HWK.out _).mono ?_
          rintro e wa ⟨rfl, hba⟩
          have HBA := Lib.hid hba
          clear hba
          go_wp2_with fail
          go_ret
          exact HFIN.out _ wa HBX9.out HBA.out
      · have hltI : ¬ (k : Int) < (t.size : Int) := by omega
        go_wp2_with fail
        refine (HWK.out _).mono ?_
        rintro e wa ⟨rfl, hba⟩
        have HBA := Lib.hid hba
        clear hba
        go_wp2_with fail
        go_ret
        exact HFIN.out _ wa HBX8.out HBA.out
end Go.Proofs.Ytenmkbpdkfhbjaa
