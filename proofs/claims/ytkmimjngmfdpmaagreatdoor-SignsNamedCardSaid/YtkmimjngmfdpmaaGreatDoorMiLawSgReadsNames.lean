/- signs.ParseName. SignsReadsNames: the law's walk. Made by gen_sglaw9.py. -/
import Derived.Test.YtkmimjngmfdpmaaGreatDoorMiSgAtoi
import Derived.Test.YtkmimjngmfdpmaaGreatDoorMgRuneHigh
import Derived.Test.YtkmimjngmfdpmaaGreatDoorMgIdxAny
import Derived.Test.YtkmimjngmfdpmaaGreatDoorMgShelfF
import Derived.Test.YtkmimjngmfdpmaaGreatDoorMgSgWorks
namespace Go.Proofs.YtkmimjngmfdpmaaGreatDoor
open Go Go.RowKit

set_option maxRecDepth 100000 in
set_option maxHeartbeats 8000000 in
theorem gParseName_any (v : Value) (l : Sg.SList) (n : ByteArray) (per : Int) (w : World) (hr : RdSL w w.heap.size v l) (hn : n.size ≤ 1000000) (hg : ErrG w) :
    Calls Tryz.prog 37 #[v, .string n, .int .i64 per] w (RetISE (Sg.readNameV l n per) w) := by
  have HEG := Lib.hid fun (W : World) (hW : Below w.heap.size w W) => hg.below hW
  have HRL := Lib.hid fun (W : World) (hW : Below w.heap.size w W) => hr.on hW
  obtain ⟨⟨u, rfl, hgl⟩, hf⟩ := hr
  obtain ⟨A0, c0, rfl⟩ := hgl.form
  obtain ⟨W1, hW1⟩ : ∃ W1, W1 = w.alloc (.cells #[.int .i64 l.periods, .slice A0 l.signs.length c0] 24) := ⟨_, rfl⟩
  have hb1 : Below w.heap.size w W1 := by rw [hW1]; exact (Below.refl _ _).alloc (Nat.le_refl _) _
  have hX : W1.heap[w.heap.size]? = some (.cells #[.int .i64 l.periods, .slice A0 l.signs.length c0] 24 (0, 0)) := by rw [hW1]; exact heap_alloc_new _ _
  have hs1 : w.heap.size < W1.heap.size := (Array.getElem?_eq_some_iff.1 hX).1
  have CX : Hid (∀ W, Below W1.heap.size W1 W → W.cell? ⟨w.heap.size, 0, none⟩ = some (.int .i64 l.periods) ∧ W.cell? ⟨w.heap.size, 1, none⟩ = some (.slice A0 l.signs.length c0)) := Lib.hid fun W hW => by
    have p := (hW.block _ hs1).trans hX
    exact ⟨by simp [World.cell?, p], by simp [World.cell?, p]⟩
  obtain ⟨x0, x1⟩ := CX.out W1 (Below.refl _ _)
  have HB1 := Lib.hid hb1
  have HW1 := Lib.hid hW1
  have HCK := Lib.hid (gCheck_any _ l W1 (HRL.out W1 hb1))
  obtain ⟨e1, he1⟩ : ∃ e1, e1 = Sg.checkV l := ⟨_, rfl⟩
  have HE1 := Lib.hid he1
  rw [← he1] at HCK
  obtain ⟨res, hres⟩ : ∃ q, q = Sg.readNameV l n per := ⟨_, rfl⟩
  rw [← hres]
  have HRES := Lib.hid hres
  clear hgl hf hW1 hb1 hX he1 hres hg
  go_enter Tryz.func37, Tryz.ntmps37
  go_upto_region 1 with fail
  rw [← HW1.out]
  go_wp2_with fail
  refine HCK.out.mono ?_
  rintro e w2 ⟨rfl, hb2⟩
  have HB2 := Lib.hid (HB1.out.trans (hb2.mono (by omega)))
  have H12 := Lib.hid hb2
  clear hb2 x0 x1
  obtain ⟨x0, x1⟩ := CX.out w2 H12.out
  by_cases h0 : e1 = 0
  case neg =>
    have HV : Hid (res = (0, ⟨#[]⟩, e1)) := Lib.hid (by rw [HRES.out]; unfold Sg.readNameV; rw [if_pos (by rw [← HE1.out]; exact h0), ← HE1.out])
    go_wp2_with fail
    go_ret3
    exact RetISE.of HV.out HB2.out
  subst h0
  obtain ⟨e2, he2⟩ : ∃ e2, e2 = Sg.perE l per := ⟨_, rfl⟩
  have HCP := Lib.hid fun W => gCheckPeriod_any l A0 l.signs.length c0 per W
  rw [← he2] at HCP
  have HE2 := Lib.hid he2
  clear he2
  go_wp2_with fail
  refine (HCP.out _).mono ?_
  rintro e w3 ⟨rfl, hb3⟩
  have HB3 := Lib.hid (HB2.out.trans (hb3.mono HB2.out.size))
  have H13 := Lib.hid (H12.out.trans (hb3.mono H12.out.size))
  clear hb3 x0 x1
  obtain ⟨x0, x1⟩ := CX.out w3 H13.out
  by_cases h0 : e2 = 0
  case neg =>
    have HV : Hid (res = (0, ⟨#[]⟩, e2)) := Lib.hid (by
      have h3 := HE2.out
      unfold Sg.perE at h3
      by_cases hp : Sg.perBad l per
      · rw [if_pos hp] at h3
        rw [HRES.out]; unfold Sg.readNameV; rw [if_neg (by rw [← HE1.out]; simp), if_pos hp, h3]
      · rw [if_neg hp] at h3; exact absurd h3 h0)
    go_wp2_with fail
    go_ret3
    exact RetISE.of HV.out HB3.out
  have hpb : ¬ Sg.perBad l per := by have := HE2.out; rw [h0] at this; unfold Sg.perE at this; intro h; rw [if_pos h] at this; cases this
  subst h0
  clear x0 x1
  obtain ⟨qi, hqi⟩ : ∃ q, q = Lib.indexAny n.data.toList Sg.tenDigs := ⟨_, rfl⟩
  obtain ⟨k, hk⟩ : ∃ k, k = Sg.atV n.data.toList := ⟨_, rfl⟩
  have hat := Sg.at_facts n.data.toList
  rw [← hk] at hat
  obtain ⟨hkn, htx, hdg⟩ := hat
  have hnl : n.data.toList.length = n.size := rfl
  rw [hnl] at hkn
  have hqk : (qi < 0 ∧ k = n.size) ∨ (¬ qi < 0 ∧ qi = (k : Int)) := by
    unfold Sg.atV at hk
    rw [← hqi] at hk
    split at hk
    · exact .inl ⟨by assumption, hk.trans hnl⟩
    · exact .inr ⟨by assumption, by omega⟩
  have HIA : Hid (∀ W, Calls Tryz.prog 76 #[.string n, .string ⟨#[48, 49, 50, 51, 52, 53, 54, 55, 56, 57]⟩] W (RetIB qi W)) := Lib.hid fun W => by
    rw [hqi]
    exact idxAny_any n ⟨#[48, 49, 50, 51, 52, 53, 54, 55, 56, 57]⟩ W (by unfold AscB; decide) (by decide) (by decide) hn
  obtain ⟨T, hT⟩ : ∃ T, T = n.extract 0 k := ⟨_, rfl⟩
  obtain ⟨D, hD⟩ : ∃ D, D = n.extract k n.size := ⟨_, rfl⟩
  have HT : Hid (T = Sg.bs (Sg.textOf n.data.toList)) := Lib.hid (by
    refine Lx.bytes_eq ?_
    rw [hT, extract_take _ _ _ hkn, Sg.bs_list, htx]; rfl)
  have HD : Hid (D.data.toList = Sg.digsOf n.data.toList) := Lib.hid (by
    rw [hD, extract_take _ _ _ (Nat.le_refl _), hdg, List.take_of_length_le (by omega)])
  have hTs : T.size ≤ 1000000 := by rw [hT, ByteArray.size_extract]; omega
  have hDs : D.size ≤ 1000000 := by rw [hD, ByteArray.size_extract]; omega
  have HDS := Lib.hid hDs
  have HTX := Lib.hid fun W => gText_any 1 T W (Nat.le_trans hTs (by decide))
  obtain ⟨tb, htb⟩ : ∃ tb, tb = Sg.textB 1 T := ⟨_, rfl⟩
  rw [← htb] at HTX
  have HBL := Lib.hid fun (W : World) (hW : Below w.heap.size w W) => gBearersL_any _ l 1 T per W (HRL.out W hW) (by have := Sg.check_len HE1.out.symm; omega)
  have hql : (Sg.bearV l.signs 1 T per).length ≤ 200 := by
    have h1 := Sg.bearV_len l.signs 1 T per
    have h2 := Sg.check_len HE1.out.symm
    omega
  obtain ⟨q, hq⟩ : ∃ q, q = Sg.bearV l.signs 1 T per := ⟨_, rfl⟩
  have HR2 : Hid (res = if tb = true ∧ Sg.numOk D.data.toList = true then Sg.readAt q (Sg.numOf D.data.toList) T else (0, ⟨#[]⟩, 4)) := Lib.hid (by
    rw [HRES.out]; unfold Sg.readNameV; rw [if_neg (by rw [← HE1.out]; simp), if_neg hpb, ← HT.out, ← HD.out, ← htb, ← hq])
  rw [← hq] at HBL hql
  have HTE := Lib.hid hT
  have HDE := Lib.hid hD
  have HNO : Hid (Sg.numOk D.data.toList = false → res = (0, ⟨#[]⟩, 4)) := Lib.hid fun h => by rw [HR2.out, if_neg (fun q => by rw [h] at q; cases q.2)]
  have HNT : Hid (tb = false → res = (0, ⟨#[]⟩, 4)) := Lib.hid fun h => by rw [HR2.out, if_neg (fun q => by rw [h] at q; cases q.1)]
  have hdl : D.data.toList.length = D.size := rfl
  have hk0 : (0 : Int) ≤ (k : Int) := by omega
  have hk1 : (k : Int) ≤ (n.size : Int) := by omega
  clear hk hqi htx hdg hnl hT hD htb hq hTs hDs hpb
  go_wp2_with fail
  refine (HIA.out _).mono ?_
  rintro e w4 ⟨rfl, hb4⟩
  have HB4 := Lib.hid (HB3.out.trans (hb4.mono HB3.out.size))
  have H14 := Lib.hid (H13.out.trans (hb4.mono H13.out.size))
  clear hb4
  rcases hqk with ⟨hq0, hke⟩ | ⟨hq0, hke⟩
  case' inl =>
    subst hke
    have HT2 : Hid (n = T) := Lib.hid (by rw [HTE.out]; exact ByteArray.extract_zero_size.symm)
    have HD2 : Hid (ByteArray.empty = D) := Lib.hid (by rw [HDE.out]; simp)
    go_wp2_with fail
    go_quiet (fail)
    rw [HT2.out, HD2.out]
  case' inr =>
    subst hke
    go_wp2_with fail
    go_quiet (fail)
    rw [← HTE.out, ← HDE.out]
  all_goals
    generalize hwc : World.drewN _ _ = wc
    have HBX : Hid (Below w.heap.size w wc) := Lib.hid (by rw [← hwc]; exact below_drewN HB4.out _)
    have H1X : Hid (Below W1.heap.size W1 wc) := Lib.hid (by rw [← hwc]; exact below_drewN H14.out _)
    clear hwc hq0 hk0 hk1 hkn
    by_cases hd0 : D.data.toList = []
    · have hb : D.toList.isEmpty = true := by rw [Lx.toList_data, hd0]; rfl
      have HF : Hid (tb = true → res = if (q.length : Int) < 1 then (0, ⟨#[]⟩, 3) else (q.getD (1 - 1 : Int).toNat 0, T, 0)) := Lib.hid fun h => by
        rw [HR2.out, hd0, if_pos ⟨h, rfl⟩]; rfl
      clear hd0 hdl
      go_wp2_with fail
      refine (HTX.out _).mono ?_
      rintro e w' ⟨rfl, rfl⟩
      cases tb
      · have HV := Lib.hid (HNT.out rfl)
        go_wp2_with fail
        go_ret3
        exact RetISE.of HV.out HBX.out
      have HF2 := Lib.hid (HF.out rfl)
      obtain ⟨x0, x1⟩ := CX.out _ H1X.out
      go_wp2_with fail
      refine (HBL.out _ HBX.out).mono ?_
      rintro e w9 ⟨v9, rfl, hown, hb9⟩
      have HB9 := Lib.hid (HBX.out.trans (hb9.mono HBX.out.size))
      have HRB := Lib.hid (rds_of_own len_int hown)
      obtain ⟨A9, c9, rfl, hl9, hc9⟩ := rds_form HRB.out
      clear hb9 hown x0 x1
      by_cases hlt : (q.length : Int) < (1 : Int)
      · have HV : Hid (res = (0, ⟨#[]⟩, 3)) := Lib.hid (by rw [HF2.out, if_pos hlt])
        go_wp2_with fail
        go_ret3
        exact RetISE.of HV.out HB9.out
      · have hpos : 0 < q.length := by omega
        obtain ⟨b9, o9, rfl, hb9, hcell⟩ := ints_ex HRB.out hpos
        obtain ⟨x, hx⟩ : ∃ x, q[((1 : Int) - 1).toNat]? = some x := ⟨_, List.getElem?_eq_getElem (by omega)⟩
        have f0 := hcell _ x hx
        have HV : Hid (res = (x, T, 0)) := Lib.hid (by rw [HF2.out, if_neg hlt, List.getD, hx]; rfl)
        simp at f0
        clear hcell hx hb9
        go_wp2_with fail
        go_ret3
        exact RetISE.of HV.out HB9.out
    have hb : D.toList.isEmpty = false := empty_not hd0
    have hz : 0 < D.size := by rw [← hdl]; exact List.length_pos_iff.2 hd0
    have HD0 := Lib.hid hd0
    have HF48 : Hid (D.data.toList[0]? = some (D[0]'hz)) := Lib.hid (Lib.data_getElem? D 0 hz)
    have HAT := Lib.hid (atoi_any D wc HDS.out (HEG.out wc HBX.out))
    clear hd0 hdl
    go_wp2_with fail
    refine HAT.out.mono ?_
    rintro e w5 ⟨xa, ev, rfl, hb5, hcase⟩
    have HB5 := Lib.hid (HBX.out.trans (hb5.mono HBX.out.size))
    have H15 := Lib.hid (H1X.out.trans (hb5.mono H1X.out.size))
    have HTR := Lib.hid (trimDig_any D w5 HDS.out)
    clear hb5
    rcases hcase with ⟨rfl, hok⟩ | ⟨⟨ty, N, rfl⟩, hno⟩
    · have HOK := Lib.hid hok; clear hok
      go_wp2_with fail
      refine HTR.out.mono ?_
      rintro e w6 ⟨u, rfl, hu, hb6⟩
      have HB6 := Lib.hid (HB5.out.trans (hb6.mono HB5.out.size))
      have H16 := Lib.hid (H15.out.trans (hb6.mono H15.out.size))
      clear hb6
      cases hd : D.data.toList.all Lx.digB
      · have hue : u.toList.isEmpty = false := by
          rw [Lx.toList_data]
          cases e : u.data.toList with
          | nil => have := hu.1 e; rw [hd] at this; cases this
          | cons a r => rfl
        have HV := Lib.hid (HNO.out (by unfold Sg.numOk; rw [hd]; rfl))
        clear hu hd
        go_wp2_with fail
        go_ret3
        exact RetISE.of HV.out HB6.out
      have hue : u.toList.isEmpty = true := by rw [Lx.toList_data, hu.2 hd]; rfl
      have HDG := Lib.hid hd
      clear hu hd
      cases hb1 : ((((D[0]'hz).toNat : Nat) : Int) == 48)
      case' true =>
        have HV := Lib.hid (HNO.out (by
          have h1 := HF48.out
          have h2 : D[0]'hz = 48 := UInt8.toNat_inj.1 (by have h3 := beq_iff_eq.1 hb1; have : (48 : UInt8).toNat = 48 := rfl; omega)
          rw [h2] at h1
          unfold Sg.numOk
          rw [h1]
          simp))
        go_wp2_with fail
        go_ret3
        exact RetISE.of HV.out HB6.out
      have H48 : Hid (¬ D.data.toList[0]? = some 48) := Lib.hid (fun h => by
        have h2 := HF48.out
        rw [h] at h2
        have h3 : (48 : UInt8) = D[0]'hz := Option.some.inj h2
        rw [← h3] at hb1
        cases hb1)
      by_cases hd1 : D.data.toList = [49]
      · have HV := Lib.hid (HNO.out (by rw [hd1]; rfl))
        have e1 : D.toList = [49] := by rw [Lx.toList_data]; exact hd1
        clear hd1
        go_wp2_with fail
        go_ret3
        exact RetISE.of HV.out HB6.out
      have e1 : (D.toList == [49]) = false := by rw [beq_eq_false_iff_ne, Lx.toList_data]; exact hd1
      have HNU : Hid (Sg.numOk D.data.toList = true) := Lib.hid (by
        unfold Sg.numOk
        rw [HDG.out, decide_eq_false hd1, decide_eq_false H48.out]
        rfl)
      clear hd1
      have HAD := Lib.hid (Sg.atoi_digs HD0.out HDG.out)
      have HNF : Hid (Sg.numOf D.data.toList = Lx.digV D.data.toList) := Lib.hid (by unfold Sg.numOf; rw [if_neg HD0.out])
      have hxa : xa = Lx.digV D.data.toList := by
        rcases HAD.out with h | ⟨h, -⟩
        · have := HOK.out; rw [h] at this; cases this; rfl
        · have := HOK.out; rw [h] at this; cases this
      have hx1 : 1 ≤ xa := by rw [hxa]; exact Sg.digV_pos _ HD0.out HDG.out H48.out
      have HBX' := HB6
      have HF : Hid (tb = true → res = if (q.length : Int) < xa then (0, ⟨#[]⟩, 3) else (q.getD (xa - 1).toNat 0, T, 0)) := Lib.hid fun h => by
        rw [HR2.out, if_pos ⟨h, HNU.out⟩, HNF.out, ← hxa]; rfl
      clear hxa HBX H1X
      obtain ⟨p, rfl⟩ : ∃ p : Nat, xa = (p : Int) + 1 := ⟨(xa - 1).toNat, by omega⟩
      have HBX := HB6
      have H1X := H16
      go_wp2_with fail
      refine (HTX.out _).mono ?_
      rintro e w' ⟨rfl, rfl⟩
      cases tb
      · have HV := Lib.hid (HNT.out rfl)
        go_wp2_with fail
        go_ret3
        exact RetISE.of HV.out HBX.out
      have HF2 := Lib.hid (HF.out rfl)
      obtain ⟨x0, x1⟩ := CX.out _ H1X.out
      go_wp2_with fail
      refine (HBL.out _ HBX.out).mono ?_
      rintro e w9 ⟨v9, rfl, hown, hb9⟩
      have HB9 := Lib.hid (HBX.out.trans (hb9.mono HBX.out.size))
      have HRB := Lib.hid (rds_of_own len_int hown)
      obtain ⟨A9, c9, rfl, hl9, hc9⟩ := rds_form HRB.out
      clear hb9 hown x0 x1
      by_cases hlt : (q.length : Int) < ((p : Int) + 1)
      · have HV : Hid (res = (0, ⟨#[]⟩, 3)) := Lib.hid (by rw [HF2.out, if_pos hlt])
        go_wp2_with fail
        go_ret3
        exact RetISE.of HV.out HB9.out
      · have hpos : 0 < q.length := by omega
        obtain ⟨b9, o9, rfl, hb9, hcell⟩ := ints_ex HRB.out hpos
        obtain ⟨x, hx⟩ : ∃ x, q[(((p : Int) + 1) - 1).toNat]? = some x := ⟨_, List.getElem?_eq_getElem (by omega)⟩
        have f0 := hcell _ x hx
        have HV : Hid (res = (x, T, 0)) := Lib.hid (by rw [HF2.out, if_neg hlt, List.getD, hx]; rfl)
        have hi0 : (0 : Int) ≤ (p : Int) := by omega
        have hi1 : (p : Int) < (q.length : Int) := by omega
        have hp : ((p : Int) + 1 - 1).toNat = p := by omega
        rw [hp] at f0
        clear hp
        clear hcell hx hb9
        go_wp2_with fail
        go_ret3
        exact RetISE.of HV.out HB9.out
    · have HOK := Lib.hid hno; clear hno
      go_wp2_with fail
      refine HTR.out.mono ?_
      rintro e w6 ⟨u, rfl, hu, hb6⟩
      have HB6 := Lib.hid (HB5.out.trans (hb6.mono HB5.out.size))
      have H16 := Lib.hid (H15.out.trans (hb6.mono H15.out.size))
      clear hb6
      cases hd : D.data.toList.all Lx.digB
      · have hue : u.toList.isEmpty = false := by
          rw [Lx.toList_data]
          cases e : u.data.toList with
          | nil => have := hu.1 e; rw [hd] at this; cases this
          | cons a r => rfl
        have HV := Lib.hid (HNO.out (by unfold Sg.numOk; rw [hd]; rfl))
        clear hu hd
        go_wp2_with fail
        go_ret3
        exact RetISE.of HV.out HB6.out
      have hue : u.toList.isEmpty = true := by rw [Lx.toList_data, hu.2 hd]; rfl
      have HDG := Lib.hid hd
      clear hu hd
      cases hb1 : ((((D[0]'hz).toNat : Nat) : Int) == 48)
      case' true =>
        have HV := Lib.hid (HNO.out (by
          have h1 := HF48.out
          have h2 : D[0]'hz = 48 := UInt8.toNat_inj.1 (by have h3 := beq_iff_eq.1 hb1; have : (48 : UInt8).toNat = 48 := rfl; omega)
          rw [h2] at h1
          unfold Sg.numOk
          rw [h1]
          simp))
        go_wp2_with fail
        go_ret3
        exact RetISE.of HV.out HB6.out
      have H48 : Hid (¬ D.data.toList[0]? = some 48) := Lib.hid (fun h => by
        have h2 := HF48.out
        rw [h] at h2
        have h3 : (48 : UInt8) = D[0]'hz := Option.some.inj h2
        rw [← h3] at hb1
        cases hb1)
      by_cases hd1 : D.data.toList = [49]
      · have HV := Lib.hid (HNO.out (by rw [hd1]; rfl))
        have e1 : D.toList = [49] := by rw [Lx.toList_data]; exact hd1
        clear hd1
        go_wp2_with fail
        go_ret3
        exact RetISE.of HV.out HB6.out
      have e1 : (D.toList == [49]) = false := by rw [beq_eq_false_iff_ne, Lx.toList_data]; exact hd1
      have HNU : Hid (Sg.numOk D.data.toList = true) := Lib.hid (by
        unfold Sg.numOk
        rw [HDG.out, decide_eq_false hd1, decide_eq_false H48.out]
        rfl)
      clear hd1
      have HAD := Lib.hid (Sg.atoi_digs HD0.out HDG.out)
      have HNF : Hid (Sg.numOf D.data.toList = Lx.digV D.data.toList) := Lib.hid (by unfold Sg.numOf; rw [if_neg HD0.out])
      have hbig : 200 < Lx.digV D.data.toList := by
        rcases HAD.out with h | ⟨-, h⟩
        · exact absurd h (HOK.out _)
        · omega
      have HF : Hid (tb = true → res = if (q.length : Int) < 201 then (0, ⟨#[]⟩, 3) else (q.getD (201 - 1 : Int).toNat 0, T, 0)) := Lib.hid fun h => by
        rw [HR2.out, if_pos ⟨h, HNU.out⟩, HNF.out, if_pos (by omega)]
        unfold Sg.readAt
        rw [if_pos (by omega)]
      clear hbig HBX H1X
      have HBX := HB6
      have H1X := H16
      go_wp2_with fail
      refine (HTX.out _).mono ?_
      rintro e w' ⟨rfl, rfl⟩
      cases tb
      · have HV := Lib.hid (HNT.out rfl)
        go_wp2_with fail
        go_ret3
        exact RetISE.of HV.out HBX.out
      have HF2 := Lib.hid (HF.out rfl)
      obtain ⟨x0, x1⟩ := CX.out _ H1X.out
      go_wp2_with fail
      refine (HBL.out _ HBX.out).mono ?_
      rintro e w9 ⟨v9, rfl, hown, hb9⟩
      have HB9 := Lib.hid (HBX.out.trans (hb9.mono HBX.out.size))
      have HRB := Lib.hid (rds_of_own len_int hown)
      obtain ⟨A9, c9, rfl, hl9, hc9⟩ := rds_form HRB.out
      clear hb9 hown x0 x1
      have hlt : (q.length : Int) < 201 := by omega
      have HV : Hid (res = (0, ⟨#[]⟩, 3)) := Lib.hid (by rw [HF2.out, if_pos hlt])
      go_wp2_with fail
      go_ret3
      exact RetISE.of HV.out HB9.out
end Go.Proofs.YtkmimjngmfdpmaaGreatDoor
namespace Go.Proofs.YtkmimjngmfdpmaaGreatDoor
open Go Go.RowKit
set_option maxRecDepth 100000 in
set_option maxHeartbeats 8000000 in
theorem SignsReadsNames_any (v : Value) (l : Sg.SList) (n : ByteArray) (per : Int) (w : World) (hr : RdSL w w.heap.size v l) (he : ErrG w) (hg : Glob w) (ht : GTab w) : Calls Tryz.prog 9 #[v, .string n, .int .i64 per] w (RetBB true w) := by
  have HRL := Lib.hid fun (W : World) (hW : Below w.heap.size w W) => hr.on hW
  have HGT := Lib.hid fun (W : World) (hW : Below w.heap.size w W) => (⟨hg.below hW, ht.below hW⟩ : Glob W ∧ GTab W)
  have HWK := Lib.hid fun (W : World) (hW : Below w.heap.size w W) => works1_any W (hg.below hW) (ht.below hW)
  obtain ⟨⟨u, rfl, hgl⟩, hf⟩ := hr
  obtain ⟨A0, c0, rfl⟩ := hgl.form
  obtain ⟨W1, hW1⟩ : ∃ W1, W1 = w.alloc (.cells #[.int .i64 l.periods, .slice A0 l.signs.length c0] 24) := ⟨_, rfl⟩
  have hb1 : Below w.heap.size w W1 := by rw [hW1]; exact (Below.refl _ _).alloc (Nat.le_refl _) _
  have hX : W1.heap[w.heap.size]? = some (.cells #[.int .i64 l.periods, .slice A0 l.signs.length c0] 24 (0, 0)) := by rw [hW1]; exact heap_alloc_new _ _
  have hs1 : w.heap.size < W1.heap.size := (Array.getElem?_eq_some_iff.1 hX).1
  have CX : Hid (∀ W, Below W1.heap.size W1 W → W.cell? ⟨w.heap.size, 0, none⟩ = some (.int .i64 l.periods) ∧ W.cell? ⟨w.heap.size, 1, none⟩ = some (.slice A0 l.signs.length c0)) := Lib.hid fun W hW => by
    have p := (hW.block _ hs1).trans hX
    exact ⟨by simp [World.cell?, p], by simp [World.cell?, p]⟩
  obtain ⟨x0, x1⟩ := CX.out W1 (Below.refl _ _)
  have HB1 := Lib.hid hb1
  have HW1 := Lib.hid hW1
  have HBG := Lib.hid (l1Big_any _ l W1 (HRL.out W1 hb1))
  clear hgl hf hW1 hb1 hX hg ht
  have HEG := Lib.hid fun (W : World) (hW : Below w.heap.size w W) => he.below hW
  clear he
  cases hbig : Sg.bigV l
  case true =>
    rw [hbig] at HBG
    clear hbig
    go_enter Tryz.func9, Tryz.ntmps9
    go_upto_region 1 with fail
    rw [← HW1.out]
    go_wp2_with fail
    refine HBG.out.mono ?_
    rintro e w2 ⟨rfl, hb2⟩
    have HB2 := Lib.hid (HB1.out.trans (hb2.mono (by omega)))
    clear hb2
    go_wp2_with fail
    refine (HWK.out _ HB2.out).mono ?_
    rintro e w3 ⟨rfl, hb3⟩
    have HB3 := Lib.hid (HB2.out.trans (hb3.mono HB2.out.size))
    clear hb3
    go_wp2_with fail
    go_ret
    exact ⟨rfl, HB3.out⟩
  rw [hbig] at HBG
  by_cases hcs : 1000 < n.size
  · have i1 : (1000 : Int) < (n.size : Int) := by omega
    clear hbig hcs
    go_enter Tryz.func9, Tryz.ntmps9
    go_upto_region 1 with fail
    rw [← HW1.out]
    go_wp2_with fail
    refine HBG.out.mono ?_
    rintro e w2 ⟨rfl, hb2⟩
    have HB2 := Lib.hid (HB1.out.trans (hb2.mono (by omega)))
    clear hb2
    go_wp2_with fail
    refine (HWK.out _ HB2.out).mono ?_
    rintro e w3 ⟨rfl, hb3⟩
    have HB3 := Lib.hid (HB2.out.trans (hb3.mono HB2.out.size))
    clear hb3
    go_wp2_with fail
    go_ret
    exact ⟨rfl, HB3.out⟩
  have i1 : ¬ (1000 : Int) < (n.size : Int) := by omega
  have HSM := Lib.hid (Sg.big_small hbig).1
  have HN := Lib.hid (show n.size ≤ 1000000 by omega)
  clear hbig hcs
  obtain ⟨⟨r1, r2, r3⟩, hQ⟩ : ∃ Q, Q = Sg.readNameV l n per := ⟨_, rfl⟩
  have HGP := Lib.hid fun (y : Value) (W : World) (hy : RdSL W W.heap.size y l) (hW : Below w.heap.size w W) => gParseName_any y l n per W hy HN.out (HEG.out W hW)
  have HRP := Lib.hid fun (W : World) (hW : Below w.heap.size w W) => r1ParseName_any _ l n per W (HRL.out W hW) HSM.out.2 HN.out
  rw [← hQ] at HGP HRP
  clear hQ
  go_enter Tryz.func9, Tryz.ntmps9
  go_upto_region 1 with fail
  rw [← HW1.out]
  go_wp2_with fail
  refine HBG.out.mono ?_
  rintro e w2 ⟨rfl, hb2⟩
  have HB2 := Lib.hid (HB1.out.trans (hb2.mono (by omega)))
  have H2 := Lib.hid hb2
  clear hb2 x0 x1
  obtain ⟨x0, x1⟩ := CX.out w2 H2.out
  go_wp2_with fail
  refine (r1Copy_any _ l w2 (HRL.out w2 HB2.out) HSM.out).mono ?_
  rintro e w3 ⟨v3, rfl, hr3, hb3⟩
  have HR3 := Lib.hid hr3
  clear hr3
  have HB3 := Lib.hid (HB2.out.trans (hb3.mono HB2.out.size))
  have H3 := Lib.hid (H2.out.trans (hb3.mono H2.out.size))
  clear hb3 x0 x1
  obtain ⟨x0, x1⟩ := CX.out w3 H3.out
  go_wp2_with fail
  refine (HGP.out _ w3 HR3.out HB3.out).mono ?_
  rintro e w4 ⟨rfl, hb4⟩
  have HB4 := Lib.hid (HB3.out.trans (hb4.mono HB3.out.size))
  have H4 := Lib.hid (H3.out.trans (hb4.mono H3.out.size))
  clear hb4 x0 x1
  obtain ⟨x0, x1⟩ := CX.out w4 H4.out
  go_wp2_with fail
  refine (HRP.out w4 HB4.out).mono ?_
  rintro e w5 ⟨rfl, hb5⟩
  have HB5 := Lib.hid (HB4.out.trans (hb5.mono HB4.out.size))
  have H5 := Lib.hid (H4.out.trans (hb5.mono H4.out.size))
  clear hb5 x0 x1
  obtain ⟨x0, x1⟩ := CX.out w5 H5.out
  go_wp2_with fail
  refine (HWK.out _ HB5.out).mono ?_
  rintro e w6 ⟨rfl, hb6⟩
  have HB6 := Lib.hid (HB5.out.trans (hb6.mono HB5.out.size))
  clear hb6
  go_wp2_with fail
  go_ret
  exact ⟨rfl, HB6.out⟩
end Go.Proofs.YtkmimjngmfdpmaaGreatDoor
