/- SignsNamed: the law's walk. Made by gen_sglaw11.py. -/
import Derived.Test.YtkmimjngmfdpmaaGreatDoorMjSgNamedPlain
import Derived.Test.YtkmimjngmfdpmaaGreatDoorMiLawSgReadsNames
import Derived.Test.YtkmimjngmfdpmaaGreatDoorMhRDec
import Derived.Test.YtkmimjngmfdpmaaGreatDoorMhSgGSame
import Derived.Test.YtkmimjngmfdpmaaGreatDoorMgSgWorks
namespace Go.Proofs.YtkmimjngmfdpmaaGreatDoor
open Go Go.RowKit
theorem strs_ex {w : World} {B n c : Nat} {A : Option Addr} {xs : List ByteArray} (h : RdS w B 1 encStr (.slice A n c) xs) (h0 : 0 < xs.length) :
    ∃ b off, A = some ⟨b, off, none⟩ ∧ b < B ∧ ∀ k x, xs[k]? = some x → w.cell? ⟨b, off + k, none⟩ = some (.string x) := by
  obtain ⟨A', c', e, _, _, h⟩ := h
  obtain ⟨b, off, e', hb, hc⟩ := h h0
  injection e with e1 e2 e3
  refine ⟨b, off, e1.trans e', hb, fun k x hk => ?_⟩
  have := hc k x hk 0 _ rfl
  simpa using this
theorem rd_one_strN (W : World) (z : ByteArray) : RdS (W.alloc (.cells #[.string z] 9)) (W.alloc (.cells #[.string z] 9)).heap.size 1 encStr (.slice (some ⟨W.heap.size, 0, none⟩) 1 1) [z] :=
  rds_block (xs := [z]) len_str (heap_alloc_new W _) rfl (by simp) (Nat.le_refl 1) (by decide)
theorem own_strN {w' : World} {base : Nat} {v' : Value} {l : List ByteArray} {z : ByteArray} (h : w'.ownsRow base 9 1 v' (l.length + 1) (l.flatMap encStr ++ [z].flatMap encStr)) : w'.ownsRow base 9 1 v' (l ++ [z]).length ((l ++ [z]).flatMap encStr) := by
  rw [List.length_append, List.flatMap_append]
  exact h
structure LsdR (T0 : Array Value) (W0 : World) (l : Sg.SList) (A0 : Option Addr) (c0 : Nat) (per : Int) (xb b off n cv m : Nat) (kd : Int) (tx : ByteArray) (k : Nat) (Q : List Int) (d : Array Bool) (t : Array Value) (wc : World) : Prop where
  bel : Below W0.heap.size W0 wc
  siz : t.size = 164
  kp : ∀ i, i ∉ ([10, 11, 61, 62, 63, 64, 65, 66, 67, 68, 69, 70, 71, 72, 73, 74, 75, 76, 77] : List Nat) → t[i]? = T0[i]?
  k2 : t[2]? = some (.pointer (some ⟨xb, 0, none⟩))
  k7 : t[7]? = some (.slice (some ⟨b, off, none⟩) n cv)
  k9 : t[9]? = some (.int .i64 (m : Nat))
  k1 : t[1]? = some (.int .i64 per)
  p0 : dn d 0 → t[62]? = some (.agg #[.int .i64 l.periods, .slice A0 l.signs.length c0])
  p1 : dn d 1 → ∃ v, t[63]? = some v ∧ RdSL wc wc.heap.size v l
  p2 : dn d 2 → t[64]? = some (.slice (some ⟨b, off, none⟩) n cv)
  p3 : dn d 3 → t[65]? = some (.int .i64 (m : Nat))
  p4 : dn d 4 → t[66]? = some (.pointer (some ⟨b, off + m * 4, none⟩))
  p5 : dn d 5 → t[67]? = some (.pointer (some ⟨b, off + m * 4, none⟩))
  p6 : dn d 6 → t[68]? = some (.int .i64 kd)
  p7 : dn d 7 → t[69]? = some (.slice (some ⟨b, off, none⟩) n cv)
  p8 : dn d 8 → t[70]? = some (.int .i64 (m : Nat))
  p9 : dn d 9 → t[71]? = some (.pointer (some ⟨b, off + m * 4, none⟩))
  p10 : dn d 10 → t[72]? = some (.pointer (some ⟨b, off + m * 4 + 1, none⟩))
  p11 : dn d 11 → t[73]? = some (.string tx)
  p12 : dn d 12 → t[74]? = some (.int .i64 per)
  p13 : dn d 13 → ∃ v, t[75]? = some v ∧ ∃ y, v = .tuple #[y, .int .i64 0] ∧ RdS wc wc.heap.size 1 encInt y Q
  p14 : dn d 14 → ∃ v, t[61]? = some v ∧ ∃ y, v = .tuple #[y, .int .i64 0] ∧ RdS wc wc.heap.size 1 encInt y Q
  p15 : dn d 15 → ∃ v, t[76]? = some v ∧ RdS wc wc.heap.size 1 encInt v Q
  p16 : dn d 16 → t[77]? = some (.int .i64 0)
  p17 : dn d 17 → ∃ v, t[10]? = some v ∧ RdS wc wc.heap.size 1 encInt v Q
  p18 : dn d 18 → t[11]? = some (.int .i64 0)
def LsdI (T0 : Array Value) (W0 : World) (l : Sg.SList) (A0 : Option Addr) (c0 : Nat) (per : Int) (xb b off n cv m : Nat) (kd : Int) (tx : ByteArray) (k : Nat) (Q : List Int) (d : Array Bool) (a : Act) (wc : World) : Prop := ∃ t : Array Value, a = ⟨t, []⟩ ∧ LsdR T0 W0 l A0 c0 per xb b off n cv m kd tx k Q d t wc
structure LseR (T0 : Array Value) (W0 : World) (l : Sg.SList) (A0 : Option Addr) (c0 : Nat) (per : Int) (xb b off n cv m : Nat) (kd : Int) (tx : ByteArray) (k : Nat) (nm : ByteArray) (d : Array Bool) (t : Array Value) (wc : World) : Prop where
  bel : Below W0.heap.size W0 wc
  siz : t.size = 164
  kp : ∀ i, i ∉ ([14, 15, 105, 106, 107, 108, 109, 110, 111, 112, 113, 114, 115, 116, 117] : List Nat) → t[i]? = T0[i]?
  k2 : t[2]? = some (.pointer (some ⟨xb, 0, none⟩))
  k6 : t[6]? = some (.int .i64 (k : Nat))
  k7 : t[7]? = some (.slice (some ⟨b, off, none⟩) n cv)
  k9 : t[9]? = some (.int .i64 (m : Nat))
  k1 : t[1]? = some (.int .i64 per)
  p0 : dn d 0 → t[106]? = some (.agg #[.int .i64 l.periods, .slice A0 l.signs.length c0])
  p1 : dn d 1 → ∃ v, t[107]? = some v ∧ RdSL wc wc.heap.size v l
  p2 : dn d 2 → t[108]? = some (.int .i64 (k : Nat))
  p3 : dn d 3 → t[109]? = some (.slice (some ⟨b, off, none⟩) n cv)
  p4 : dn d 4 → t[110]? = some (.int .i64 (m : Nat))
  p5 : dn d 5 → t[111]? = some (.pointer (some ⟨b, off + m * 4, none⟩))
  p6 : dn d 6 → t[112]? = some (.pointer (some ⟨b, off + m * 4 + 1, none⟩))
  p7 : dn d 7 → t[113]? = some (.string tx)
  p8 : dn d 8 → t[114]? = some (.int .i64 per)
  p9 : dn d 9 → t[115]? = some (.tuple #[.string nm, .int .i64 0])
  p10 : dn d 10 → t[105]? = some (.tuple #[.string nm, .int .i64 0])
  p11 : dn d 11 → t[116]? = some (.string nm)
  p12 : dn d 12 → t[117]? = some (.int .i64 0)
  p13 : dn d 13 → t[14]? = some (.string nm)
  p14 : dn d 14 → t[15]? = some (.int .i64 0)
def LseI (T0 : Array Value) (W0 : World) (l : Sg.SList) (A0 : Option Addr) (c0 : Nat) (per : Int) (xb b off n cv m : Nat) (kd : Int) (tx : ByteArray) (k : Nat) (nm : ByteArray) (d : Array Bool) (a : Act) (wc : World) : Prop := ∃ t : Array Value, a = ⟨t, []⟩ ∧ LseR T0 W0 l A0 c0 per xb b off n cv m kd tx k nm d t wc
set_option maxRecDepth 100000 in
set_option maxHeartbeats 8000000 in
theorem SignsNamed_any (v : Value) (l : Sg.SList) (per : Int) (w : World) (hr : RdSL w w.heap.size v l) (he : ErrG w) (hg : Glob w) (ht : GTab w) : Calls Tryz.prog 11 #[v, .int .i64 per] w (RetBB true w) := by
  have HRL := Lib.hid fun (W : World) (hW : Below w.heap.size w W) => hr.on hW
  have HGT := Lib.hid fun (W : World) (hW : Below w.heap.size w W) => (⟨hg.below hW, ht.below hW⟩ : Glob W ∧ GTab W)
  have HWK := Lib.hid fun (W : World) (hW : Below w.heap.size w W) => works1_any W (hg.below hW) (ht.below hW)
  obtain ⟨⟨u, rfl, hgl⟩, hf⟩ := hr
  obtain ⟨A0, c0, rfl⟩ := hgl.form
  obtain ⟨W1, hW1⟩ : ∃ W1, W1 = w.alloc (.cells #[.int .i64 l.periods, .slice A0 l.signs.length c0] 24) := ⟨_, rfl⟩
  have hb1 : Below w.heap.size w W1 := by rw [hW1]; exact (Below.refl _ _).alloc (Nat.le_refl _) _
  have hX : W1.heap[w.heap.size]? = some (.cells #[.int .i64 l.periods, .slice A0 l.signs.length c0] 24 (0, 0)) := by rw [hW1]; exact heap_alloc_new _ _
  have hs1 : w.heap.size < W1.heap.size := (Array.getElem?_eq_some_iff.1 hX).1
  have CX : Hid (∀ W, Below W1.heap.size W1 W → W.cell? ⟨w.heap.size, 0, none⟩ = some (.int .i64 l.periods) ∧ W.cell? ⟨w.heap.size, 1, none⟩ = some (.slice A0 l.signs.length c0)) := Lib.hid fun W hW => by
    have p := (hW.block _ hs1).trans hX
    exact ⟨by simp [World.cell?, p], by simp [World.cell?, p]⟩
  obtain ⟨x0, x1⟩ := CX.out W1 (Below.refl _ _)
  have HB1 := Lib.hid hb1
  have HW1 := Lib.hid hW1
  have HBG := Lib.hid (l1Large_any _ l W1 (HRL.out W1 hb1))
  clear hgl hf hW1 hb1 hX hg ht
  have HEG := Lib.hid fun (W : World) (hW : Below w.heap.size w W) => he.below hW
  have HCK := Lib.hid fun (W : World) (hW : Below w.heap.size w W) => r1Check_any _ l W (HRL.out W hW)
  obtain ⟨lg, hlg⟩ : ∃ lg, lg = Sg.largeV l := ⟨_, rfl⟩
  have HLG := Lib.hid hlg
  rw [← hlg] at HBG
  obtain ⟨ck, hck⟩ : ∃ ck, ck = Sg.checkV l := ⟨_, rfl⟩
  have HCE := Lib.hid hck
  rw [← hck] at HCK
  clear he hlg hck
  go_enter Tryz.func11, Tryz.ntmps11
  go_upto_region 1 with fail
  rw [← HW1.out]
  go_wp2_with fail
  refine HBG.out.mono ?_
  rintro e w2 ⟨rfl, hb2⟩
  have HB2 := Lib.hid (HB1.out.trans (hb2.mono (by omega)))
  have H2 := Lib.hid hb2
  clear hb2 x0 x1
  obtain ⟨x0, x1⟩ := CX.out w2 H2.out
  cases lg
  case true =>
    go_wp2_with fail
    refine (HWK.out _ HB2.out).mono ?_
    rintro e wz ⟨rfl, hbz⟩
    have HBZ := Lib.hid (HB2.out.trans (hbz.mono HB2.out.size))
    clear hbz
    go_wp2_with fail
    go_ret
    exact ⟨rfl, HBZ.out⟩
  go_wp2_with fail
  refine (HCK.out w2 HB2.out).mono ?_
  rintro e w3 ⟨rfl, hb3⟩
  have HB3 := Lib.hid (HB2.out.trans (hb3.mono HB2.out.size))
  have H3 := Lib.hid (H2.out.trans (hb3.mono H2.out.size))
  clear hb3 x0 x1
  obtain ⟨x0, x1⟩ := CX.out w3 H3.out
  by_cases hc0 : ck = 0
  case neg =>
    go_wp2_with fail
    refine (HWK.out _ HB3.out).mono ?_
    rintro e wz ⟨rfl, hbz⟩
    have HBZ := Lib.hid (HB3.out.trans (hbz.mono HB3.out.size))
    clear hbz
    go_wp2_with fail
    go_ret
    exact ⟨rfl, HBZ.out⟩
  subst hc0
  have HCL : Hid (Sg.checkV l = 0) := Lib.hid HCE.out.symm
  by_cases hp1 : per < 1
  · go_wp2_with fail
    refine (HWK.out _ HB3.out).mono ?_
    rintro e wz ⟨rfl, hbz⟩
    have HBZ := Lib.hid (HB3.out.trans (hbz.mono HB3.out.size))
    clear hbz
    go_wp2_with fail
    go_ret
    exact ⟨rfl, HBZ.out⟩
  by_cases hp2 : l.periods < per
  · go_wp2_with fail
    refine (HWK.out _ HB3.out).mono ?_
    rintro e wz ⟨rfl, hbz⟩
    have HBZ := Lib.hid (HB3.out.trans (hbz.mono HB3.out.size))
    clear hbz
    go_wp2_with fail
    go_ret
    exact ⟨rfl, HBZ.out⟩
  have HPB : Hid (¬ Sg.perBad l per) := Lib.hid (by unfold Sg.perBad; omega)
  have hlg := HLG.out
  unfold Sg.largeV at hlg
  have hlg' := Bool.or_eq_false_iff.1 hlg.symm
  have HSM := Lib.hid (Sg.big_small hlg'.1).1
  have HKL : Hid (l.signs.length ≤ 30) := Lib.hid (by have := hlg'.2; simpa using this)
  have HVL : Hid (∀ s ∈ l.signs, s.values.length ≤ 12) := Lib.hid fun s hs => by
    obtain ⟨i, hi⟩ := List.getElem?_of_mem hs
    exact (Sg.sign_parts ((Sg.check_sign HCL.out).2.2 i s hi)).2.2.2.1
  have HCP3 := Lib.hid fun (W : World) (hW : Below w3.heap.size w3 W) => r1Copy_any _ l W (HRL.out W (HB3.out.trans (hW.mono HB3.out.size))) HSM.out
  have CW := Lib.hid fun (W : World) (hW : Below w3.heap.size w3 W) => CX.out W (H3.out.trans (hW.mono H3.out.size))
  obtain ⟨i1, hi1, hz1, hs1', hb1'⟩ := info_parts info_str
  have h3s := HB3.out.size
  have hkl := HKL.out
  clear hlg hlg'
  go_wp2_with fail
  clear x0 x1 hp1 hp2
  go_loopg [5, 6] l.signs.length (fun g nn i wr => ∃ (k : Nat) (q : List ByteArray), k ≤ l.signs.length ∧ g = l.signs.length - k ∧ i = .int .i64 (k : Nat) ∧ Below w3.heap.size w3 wr ∧ wr.ownsRow w3.heap.size 9 1 nn q.length (q.flatMap encStr) ∧ Sg.Named l per k 0 q ∧ q.length ≤ 12 * k)
  case atStart => exact ⟨0, [], Nat.zero_le _, rfl, rfl, Below.refl _ _, World.ownsRow_nil _ _ _ _, fun x hx => (by cases hx), Nat.le_refl _⟩
  case round =>
    obtain ⟨k, q, hk, rfl, rfl, hbel, hown, hnm, hql⟩ := hrel
    obtain ⟨An, cn, rfl⟩ := own_form hown
    have HBK := Lib.hid hbel
    have HOK := Lib.hid hown
    have HNM := Lib.hid hnm
    have HQK := Lib.hid hql
    obtain ⟨x0, x1⟩ := CW.out wr hbel
    clear hbel hown hnm hql
    by_cases hlt : k < l.signs.length
    · obtain ⟨s, hs⟩ : ∃ s, l.signs[k]? = some s := ⟨_, List.getElem?_eq_getElem hlt⟩
      have HS := Lib.hid hs
      obtain ⟨vs, hvs⟩ : ∃ vs, vs = Sg.useV s per := ⟨_, rfl⟩
      have HVSE := Lib.hid hvs
      have hvl : vs.length ≤ 12 := by rw [hvs]; exact Nat.le_trans (List.length_filter_le _ _) (HVL.out s (List.mem_of_getElem? hs))
      have hve : Sg.valuesE l (k : Int) per = 0 := by unfold Sg.valuesE; rw [if_neg (by rw [HCL.out]; simp), if_neg (by unfold Sg.signBad; omega), if_neg HPB.out]
      have hvq : Sg.valsQ l (k : Int) per = vs := by
        unfold Sg.valsQ
        rw [if_pos hve, Int.toNat_natCast, hs, hvs]
      have HGV := Lib.hid fun (y : Value) (W : World) (hy : RdSL W W.heap.size y l) => gValuesO_any y l (k : Int) per W hy HSM.out.2
      rw [hve, hvq] at HGV
      have hkI : (k : Int) < (l.signs.length : Int) := by omega
      clear hs hvs hve hvq
      go_wp2_with fail
      refine (HCP3.out wr HBK.out).mono ?_
      rintro e w4 ⟨v4, rfl, hr4, hb4⟩
      have HB4 := Lib.hid (HBK.out.trans (hb4.mono HBK.out.size))
      have HVC := Lib.hid (HGV.out v4 w4 hr4)
      have HO4 := Lib.hid (keep_own HOK.out hb4)
      clear hr4 hb4 x0 x1
      go_wp2_with fail
      refine HVC.out.mono ?_
      rintro e w5 ⟨v5, rfl, hown5, hb5⟩
      have HB5 := Lib.hid (HB4.out.trans (hb5.mono HB4.out.size))
      have HO5 := Lib.hid (keep_own HO4.out hb5)
      have HV5 := Lib.hid hown5
      obtain ⟨Av, cv, rfl⟩ := own_form hown5
      clear hown5 hb5
      go_wp2_with fail
      go_loopg [5, 9] vs.length (fun g nn i wr => ∃ (m : Nat) (q : List ByteArray), m ≤ vs.length ∧ g = vs.length - m ∧ i = .int .i64 (m : Nat) ∧ Below w3.heap.size w3 wr ∧ wr.ownsRow w3.heap.size 9 1 nn q.length (q.flatMap encStr) ∧ wr.ownsRow w4.heap.size 60 4 (.slice Av vs.length cv) vs.length (vs.flatMap encValue) ∧ Sg.Named l per k m q ∧ q.length ≤ 12 * k + m)
      case atStart => exact ⟨0, q, Nat.zero_le _, rfl, rfl, HB5.out, HO5.out, HV5.out, HNM.out, HQK.out⟩
      case round =>
        clear HNM HQK HOK HO4 HO5 An cn q
        obtain ⟨m, q, hm, rfl, rfl, hbel, hown, hownv, hnm, hql⟩ := hrel
        rename World => wq
        obtain ⟨An, cn, rfl⟩ := own_form hown
        have HBQ := Lib.hid hbel
        have HON := Lib.hid hown
        have HNMQ := Lib.hid hnm
        have HQL := Lib.hid hql
        have hqb : q.length ≤ 1000 := by omega
        clear hown hnm hql
        by_cases hmt : m < vs.length
        · obtain ⟨y, hy⟩ : ∃ y, vs[m]? = some y := ⟨_, List.getElem?_eq_getElem hmt⟩
          obtain ⟨kd, tx, lo, hi⟩ := y
          obtain ⟨b, off, rfl, hb, hcv⟩ := RdX.four (rds_of_own len_value hownv) (by omega)
          obtain ⟨g0, g1, -, -⟩ := hcv m _ hy
          have HOV := Lib.hid hownv
          have HY := Lib.hid hy
          have hys : (Sg.useV s per)[m]? = some ⟨kd, tx, lo, hi⟩ := by rw [← HVSE.out]; exact hy
          have HYS := Lib.hid hys
          have HHS := Lib.hid (Sg.use_has hys)
          have CQ : Hid (∀ W, Below wq.heap.size wq W → W.cell? ⟨w.heap.size, 0, none⟩ = some (.int .i64 l.periods) ∧ W.cell? ⟨w.heap.size, 1, none⟩ = some (.slice A0 l.signs.length c0) ∧ W.cell? ⟨b, off + m * 4, none⟩ = some (.int .i64 kd) ∧ W.cell? ⟨b, off + m * 4 + 1, none⟩ = some (.string tx)) := Lib.hid fun W hW =>
            ⟨(CW.out W (HBQ.out.trans (hW.mono HBQ.out.size))).1, (CW.out W (HBQ.out.trans (hW.mono HBQ.out.size))).2, (hW.cell (p := ⟨b, off + m * 4, none⟩) hb).trans g0, (hW.cell (p := ⟨b, off + m * 4 + 1, none⟩) hb).trans g1⟩
          have CQ0 := Lib.hid CQ.out
          have hu := Sg.use_mem hys
          obtain ⟨ix, hix⟩ := List.getElem?_of_mem hu.1
          have hva := (Sg.value_at (Sg.sign_parts ((Sg.check_sign HCL.out).2.2 k s HS.out)).2.2.2.2 hix).1
          have HTB := Lib.hid hva.2.2
          have HTZ : Hid (tx.size ≤ 1000000) := Lib.hid (by
            have := hva.2.2
            unfold Sg.textB at this
            simp only [Bool.and_eq_true, decide_eq_true_eq] at this
            have := this.1.2
            omega)
          obtain ⟨Q, hQ⟩ : ∃ Q, Q = Sg.bearV l.signs kd tx per := ⟨_, rfl⟩
          have HMEM : Hid ((k : Int) ∈ Q) := Lib.hid (by
            rw [hQ]
            exact Sg.mem_bear HS.out HHS.out)
          have hQl : Q.length ≤ 30 := by
            rw [hQ]
            exact Nat.le_trans (Sg.bearV_len l.signs kd tx per) HKL.out
          have hbe : Sg.bearE l kd per = 0 := by unfold Sg.bearE; rw [if_neg (by rw [HCL.out]; simp), if_neg (by have := hva.1; have := hva.2.1; simp only at *; omega), if_neg HPB.out]
          have hbq : Sg.bearQ l kd tx per = Q := by unfold Sg.bearQ; rw [if_pos hbe, hQ]
          have HBC := Lib.hid fun (W : World) (z : Value) (hz : RdSL W W.heap.size z l) => gBearers_any z l kd tx per W hz
          rw [hbe, hbq] at HBC
          have HCP := Lib.hid fun (W : World) (hW : Below wq.heap.size wq W) => HCP3.out W (HBQ.out.trans (hW.mono HBQ.out.size))
          have hm0 : (0 : Int) ≤ (m : Int) := by omega
          have hm1 : (m : Int) < (vs.length : Int) := by omega
          clear hownv hcv hy hys g0 g1 hu hix hva hQ hbe hbq
          go_upto_region 13 with fail
          refine wp_region_inv2T (fun T0 => LsdI T0 wq l A0 c0 per w.heap.size b off vs.length cv m kd tx k Q) (by kernel_rfl) (by kernel_rfl) ?g0a ?gstepa ?genda
          case g0a =>
            have hno : ∀ j, ¬ dn (Array.replicate 19 false) j := by
              intro j; unfold dn; by_cases hj : j < 19 <;> simp [Array.getD, hj]
            have na : ∀ {j : Nat} {Z : Prop}, dn (Array.replicate 19 false) j → Z := fun hj => absurd hj (hno _)
            exact ⟨_, rfl, { bel := (Below.refl _ _).drew, siz := rfl, kp := fun _ _ => rfl, k2 := rfl, k7 := rfl, k9 := rfl, k1 := rfl, p0 := na, p1 := fun hj => absurd hj (hno _), p2 := na, p3 := na, p4 := na, p5 := na, p6 := na, p7 := na, p8 := na, p9 := na, p10 := na, p11 := na, p12 := na, p13 := fun hj => absurd hj (hno _), p14 := fun hj => absurd hj (hno _), p15 := fun hj => absurd hj (hno _), p16 := na, p17 := fun hj => absurd hj (hno _), p18 := na }⟩
          case gstepa =>
            intro T0 d a wc i hd hI hi
            obtain ⟨hlt, hnd, hpre⟩ := mem_ready hi
            have hd' : d.size = 19 := hd
            have hin : i < 19 := hlt
            clear hi hd hlt
            obtain ⟨t, rfl, h⟩ := hI
            have hcs : i = 0 ∨ i = 1 ∨ i = 2 ∨ i = 3 ∨ i = 4 ∨ i = 5 ∨ i = 6 ∨ i = 7 ∨ i = 8 ∨ i = 9 ∨ i = 10 ∨ i = 11 ∨ i = 12 ∨ i = 13 ∨ i = 14 ∨ i = 15 ∨ i = 16 ∨ i = 17 ∨ i = 18 := by omega
            rcases hcs with rfl | rfl | rfl | rfl | rfl | rfl | rfl | rfl | rfl | rfl | rfl | rfl | rfl | rfl | rfl | rfl | rfl | rfl | rfl
            · have hi : 0 < d.size := by omega
              have q2 := h.k2
              obtain ⟨m0, m1, n0, n1⟩ := CQ.out wc h.bel
              refine wpOp_plain rfl rfl ?_
              go_simp
              exact ⟨_, rfl, { bel := h.bel, siz := (by simpa using h.siz), kp := rk h.kp, k2 := rs h.k2, k7 := rs h.k7, k9 := rs h.k9, k1 := rs h.k1, p0 := fun _ => set_same (by have := h.siz; omega), p1 := rc hi h.p1 (fun v h2 => h2.on (Below.refl _ _)), p2 := rp hi h.p2, p3 := rp hi h.p3, p4 := rp hi h.p4, p5 := rp hi h.p5, p6 := rp hi h.p6, p7 := rp hi h.p7, p8 := rp hi h.p8, p9 := rp hi h.p9, p10 := rp hi h.p10, p11 := rp hi h.p11, p12 := rp hi h.p12, p13 := rc hi h.p13 (fun v h2 => h2.imp fun _ hx => ⟨hx.1, rds_on hx.2 (Below.refl _ _)⟩), p14 := rc hi h.p14 (fun v h2 => h2.imp fun _ hx => ⟨hx.1, rds_on hx.2 (Below.refl _ _)⟩), p15 := rc hi h.p15 (fun v h2 => rds_on h2 (Below.refl _ _)), p16 := rp hi h.p16, p17 := rc hi h.p17 (fun v h2 => rds_on h2 (Below.refl _ _)), p18 := rp hi h.p18 }⟩
            · have hi : 1 < d.size := by omega
              have e0 := h.p0 (hpre _ rfl ⟨0, .data⟩ (by simp) rfl)
              refine wpOp_plain rfl rfl ?_
              go_simp
              refine (HCP.out wc h.bel).mono ?_
              rintro e1 w1 ⟨y1, rfl, hq1, hb⟩
              exact ⟨_, rfl, { bel := h.bel.trans (hb.mono h.bel.size), siz := (by simpa using h.siz), kp := rk h.kp, k2 := rs h.k2, k7 := rs h.k7, k9 := rs h.k9, k1 := rs h.k1, p0 := rp hi h.p0, p1 := fun _ => ⟨_, set_same (by have := h.siz; omega), hq1⟩, p2 := rp hi h.p2, p3 := rp hi h.p3, p4 := rp hi h.p4, p5 := rp hi h.p5, p6 := rp hi h.p6, p7 := rp hi h.p7, p8 := rp hi h.p8, p9 := rp hi h.p9, p10 := rp hi h.p10, p11 := rp hi h.p11, p12 := rp hi h.p12, p13 := rc hi h.p13 (fun v h2 => h2.imp fun _ hx => ⟨hx.1, rds_on hx.2 hb⟩), p14 := rc hi h.p14 (fun v h2 => h2.imp fun _ hx => ⟨hx.1, rds_on hx.2 hb⟩), p15 := rc hi h.p15 (fun v h2 => rds_on h2 hb), p16 := rp hi h.p16, p17 := rc hi h.p17 (fun v h2 => rds_on h2 hb), p18 := rp hi h.p18 }⟩
            · have hi : 2 < d.size := by omega
              have q7 := h.k7
              refine wpOp_plain rfl rfl ?_
              go_simp
              exact ⟨_, rfl, { bel := h.bel, siz := (by simpa using h.siz), kp := rk h.kp, k2 := rs h.k2, k7 := rs h.k7, k9 := rs h.k9, k1 := rs h.k1, p0 := rp hi h.p0, p1 := rc hi h.p1 (fun v h2 => h2.on (Below.refl _ _)), p2 := fun _ => set_same (by have := h.siz; omega), p3 := rp hi h.p3, p4 := rp hi h.p4, p5 := rp hi h.p5, p6 := rp hi h.p6, p7 := rp hi h.p7, p8 := rp hi h.p8, p9 := rp hi h.p9, p10 := rp hi h.p10, p11 := rp hi h.p11, p12 := rp hi h.p12, p13 := rc hi h.p13 (fun v h2 => h2.imp fun _ hx => ⟨hx.1, rds_on hx.2 (Below.refl _ _)⟩), p14 := rc hi h.p14 (fun v h2 => h2.imp fun _ hx => ⟨hx.1, rds_on hx.2 (Below.refl _ _)⟩), p15 := rc hi h.p15 (fun v h2 => rds_on h2 (Below.refl _ _)), p16 := rp hi h.p16, p17 := rc hi h.p17 (fun v h2 => rds_on h2 (Below.refl _ _)), p18 := rp hi h.p18 }⟩
            · have hi : 3 < d.size := by omega
              have q9 := h.k9
              refine wpOp_plain rfl rfl ?_
              go_simp
              exact ⟨_, rfl, { bel := h.bel, siz := (by simpa using h.siz), kp := rk h.kp, k2 := rs h.k2, k7 := rs h.k7, k9 := rs h.k9, k1 := rs h.k1, p0 := rp hi h.p0, p1 := rc hi h.p1 (fun v h2 => h2.on (Below.refl _ _)), p2 := rp hi h.p2, p3 := fun _ => set_same (by have := h.siz; omega), p4 := rp hi h.p4, p5 := rp hi h.p5, p6 := rp hi h.p6, p7 := rp hi h.p7, p8 := rp hi h.p8, p9 := rp hi h.p9, p10 := rp hi h.p10, p11 := rp hi h.p11, p12 := rp hi h.p12, p13 := rc hi h.p13 (fun v h2 => h2.imp fun _ hx => ⟨hx.1, rds_on hx.2 (Below.refl _ _)⟩), p14 := rc hi h.p14 (fun v h2 => h2.imp fun _ hx => ⟨hx.1, rds_on hx.2 (Below.refl _ _)⟩), p15 := rc hi h.p15 (fun v h2 => rds_on h2 (Below.refl _ _)), p16 := rp hi h.p16, p17 := rc hi h.p17 (fun v h2 => rds_on h2 (Below.refl _ _)), p18 := rp hi h.p18 }⟩
            · have hi : 4 < d.size := by omega
              have e2 := h.p2 (hpre _ rfl ⟨2, .data⟩ (by simp) rfl)
              have e3 := h.p3 (hpre _ rfl ⟨3, .data⟩ (by simp) rfl)
              refine wpOp_plain rfl rfl ?_
              go_simp
              exact ⟨_, rfl, { bel := h.bel, siz := (by simpa using h.siz), kp := rk h.kp, k2 := rs h.k2, k7 := rs h.k7, k9 := rs h.k9, k1 := rs h.k1, p0 := rp hi h.p0, p1 := rc hi h.p1 (fun v h2 => h2.on (Below.refl _ _)), p2 := rp hi h.p2, p3 := rp hi h.p3, p4 := fun _ => set_same (by have := h.siz; omega), p5 := rp hi h.p5, p6 := rp hi h.p6, p7 := rp hi h.p7, p8 := rp hi h.p8, p9 := rp hi h.p9, p10 := rp hi h.p10, p11 := rp hi h.p11, p12 := rp hi h.p12, p13 := rc hi h.p13 (fun v h2 => h2.imp fun _ hx => ⟨hx.1, rds_on hx.2 (Below.refl _ _)⟩), p14 := rc hi h.p14 (fun v h2 => h2.imp fun _ hx => ⟨hx.1, rds_on hx.2 (Below.refl _ _)⟩), p15 := rc hi h.p15 (fun v h2 => rds_on h2 (Below.refl _ _)), p16 := rp hi h.p16, p17 := rc hi h.p17 (fun v h2 => rds_on h2 (Below.refl _ _)), p18 := rp hi h.p18 }⟩
            · have hi : 5 < d.size := by omega
              have e4 := h.p4 (hpre _ rfl ⟨4, .data⟩ (by simp) rfl)
              refine wpOp_plain rfl rfl ?_
              go_simp
              exact ⟨_, rfl, { bel := h.bel, siz := (by simpa using h.siz), kp := rk h.kp, k2 := rs h.k2, k7 := rs h.k7, k9 := rs h.k9, k1 := rs h.k1, p0 := rp hi h.p0, p1 := rc hi h.p1 (fun v h2 => h2.on (Below.refl _ _)), p2 := rp hi h.p2, p3 := rp hi h.p3, p4 := rp hi h.p4, p5 := fun _ => set_same (by have := h.siz; omega), p6 := rp hi h.p6, p7 := rp hi h.p7, p8 := rp hi h.p8, p9 := rp hi h.p9, p10 := rp hi h.p10, p11 := rp hi h.p11, p12 := rp hi h.p12, p13 := rc hi h.p13 (fun v h2 => h2.imp fun _ hx => ⟨hx.1, rds_on hx.2 (Below.refl _ _)⟩), p14 := rc hi h.p14 (fun v h2 => h2.imp fun _ hx => ⟨hx.1, rds_on hx.2 (Below.refl _ _)⟩), p15 := rc hi h.p15 (fun v h2 => rds_on h2 (Below.refl _ _)), p16 := rp hi h.p16, p17 := rc hi h.p17 (fun v h2 => rds_on h2 (Below.refl _ _)), p18 := rp hi h.p18 }⟩
            · have hi : 6 < d.size := by omega
              have e5 := h.p5 (hpre _ rfl ⟨5, .data⟩ (by simp) rfl)
              obtain ⟨m0, m1, n0, n1⟩ := CQ.out wc h.bel
              refine wpOp_plain rfl rfl ?_
              go_simp
              exact ⟨_, rfl, { bel := h.bel, siz := (by simpa using h.siz), kp := rk h.kp, k2 := rs h.k2, k7 := rs h.k7, k9 := rs h.k9, k1 := rs h.k1, p0 := rp hi h.p0, p1 := rc hi h.p1 (fun v h2 => h2.on (Below.refl _ _)), p2 := rp hi h.p2, p3 := rp hi h.p3, p4 := rp hi h.p4, p5 := rp hi h.p5, p6 := fun _ => set_same (by have := h.siz; omega), p7 := rp hi h.p7, p8 := rp hi h.p8, p9 := rp hi h.p9, p10 := rp hi h.p10, p11 := rp hi h.p11, p12 := rp hi h.p12, p13 := rc hi h.p13 (fun v h2 => h2.imp fun _ hx => ⟨hx.1, rds_on hx.2 (Below.refl _ _)⟩), p14 := rc hi h.p14 (fun v h2 => h2.imp fun _ hx => ⟨hx.1, rds_on hx.2 (Below.refl _ _)⟩), p15 := rc hi h.p15 (fun v h2 => rds_on h2 (Below.refl _ _)), p16 := rp hi h.p16, p17 := rc hi h.p17 (fun v h2 => rds_on h2 (Below.refl _ _)), p18 := rp hi h.p18 }⟩
            · have hi : 7 < d.size := by omega
              have q7 := h.k7
              refine wpOp_plain rfl rfl ?_
              go_simp
              exact ⟨_, rfl, { bel := h.bel, siz := (by simpa using h.siz), kp := rk h.kp, k2 := rs h.k2, k7 := rs h.k7, k9 := rs h.k9, k1 := rs h.k1, p0 := rp hi h.p0, p1 := rc hi h.p1 (fun v h2 => h2.on (Below.refl _ _)), p2 := rp hi h.p2, p3 := rp hi h.p3, p4 := rp hi h.p4, p5 := rp hi h.p5, p6 := rp hi h.p6, p7 := fun _ => set_same (by have := h.siz; omega), p8 := rp hi h.p8, p9 := rp hi h.p9, p10 := rp hi h.p10, p11 := rp hi h.p11, p12 := rp hi h.p12, p13 := rc hi h.p13 (fun v h2 => h2.imp fun _ hx => ⟨hx.1, rds_on hx.2 (Below.refl _ _)⟩), p14 := rc hi h.p14 (fun v h2 => h2.imp fun _ hx => ⟨hx.1, rds_on hx.2 (Below.refl _ _)⟩), p15 := rc hi h.p15 (fun v h2 => rds_on h2 (Below.refl _ _)), p16 := rp hi h.p16, p17 := rc hi h.p17 (fun v h2 => rds_on h2 (Below.refl _ _)), p18 := rp hi h.p18 }⟩
            · have hi : 8 < d.size := by omega
              have q9 := h.k9
              refine wpOp_plain rfl rfl ?_
              go_simp
              exact ⟨_, rfl, { bel := h.bel, siz := (by simpa using h.siz), kp := rk h.kp, k2 := rs h.k2, k7 := rs h.k7, k9 := rs h.k9, k1 := rs h.k1, p0 := rp hi h.p0, p1 := rc hi h.p1 (fun v h2 => h2.on (Below.refl _ _)), p2 := rp hi h.p2, p3 := rp hi h.p3, p4 := rp hi h.p4, p5 := rp hi h.p5, p6 := rp hi h.p6, p7 := rp hi h.p7, p8 := fun _ => set_same (by have := h.siz; omega), p9 := rp hi h.p9, p10 := rp hi h.p10, p11 := rp hi h.p11, p12 := rp hi h.p12, p13 := rc hi h.p13 (fun v h2 => h2.imp fun _ hx => ⟨hx.1, rds_on hx.2 (Below.refl _ _)⟩), p14 := rc hi h.p14 (fun v h2 => h2.imp fun _ hx => ⟨hx.1, rds_on hx.2 (Below.refl _ _)⟩), p15 := rc hi h.p15 (fun v h2 => rds_on h2 (Below.refl _ _)), p16 := rp hi h.p16, p17 := rc hi h.p17 (fun v h2 => rds_on h2 (Below.refl _ _)), p18 := rp hi h.p18 }⟩
            · have hi : 9 < d.size := by omega
              have e7 := h.p7 (hpre _ rfl ⟨7, .data⟩ (by simp) rfl)
              have e8 := h.p8 (hpre _ rfl ⟨8, .data⟩ (by simp) rfl)
              refine wpOp_plain rfl rfl ?_
              go_simp
              exact ⟨_, rfl, { bel := h.bel, siz := (by simpa using h.siz), kp := rk h.kp, k2 := rs h.k2, k7 := rs h.k7, k9 := rs h.k9, k1 := rs h.k1, p0 := rp hi h.p0, p1 := rc hi h.p1 (fun v h2 => h2.on (Below.refl _ _)), p2 := rp hi h.p2, p3 := rp hi h.p3, p4 := rp hi h.p4, p5 := rp hi h.p5, p6 := rp hi h.p6, p7 := rp hi h.p7, p8 := rp hi h.p8, p9 := fun _ => set_same (by have := h.siz; omega), p10 := rp hi h.p10, p11 := rp hi h.p11, p12 := rp hi h.p12, p13 := rc hi h.p13 (fun v h2 => h2.imp fun _ hx => ⟨hx.1, rds_on hx.2 (Below.refl _ _)⟩), p14 := rc hi h.p14 (fun v h2 => h2.imp fun _ hx => ⟨hx.1, rds_on hx.2 (Below.refl _ _)⟩), p15 := rc hi h.p15 (fun v h2 => rds_on h2 (Below.refl _ _)), p16 := rp hi h.p16, p17 := rc hi h.p17 (fun v h2 => rds_on h2 (Below.refl _ _)), p18 := rp hi h.p18 }⟩
            · have hi : 10 < d.size := by omega
              have e9 := h.p9 (hpre _ rfl ⟨9, .data⟩ (by simp) rfl)
              refine wpOp_plain rfl rfl ?_
              go_simp
              exact ⟨_, rfl, { bel := h.bel, siz := (by simpa using h.siz), kp := rk h.kp, k2 := rs h.k2, k7 := rs h.k7, k9 := rs h.k9, k1 := rs h.k1, p0 := rp hi h.p0, p1 := rc hi h.p1 (fun v h2 => h2.on (Below.refl _ _)), p2 := rp hi h.p2, p3 := rp hi h.p3, p4 := rp hi h.p4, p5 := rp hi h.p5, p6 := rp hi h.p6, p7 := rp hi h.p7, p8 := rp hi h.p8, p9 := rp hi h.p9, p10 := fun _ => set_same (by have := h.siz; omega), p11 := rp hi h.p11, p12 := rp hi h.p12, p13 := rc hi h.p13 (fun v h2 => h2.imp fun _ hx => ⟨hx.1, rds_on hx.2 (Below.refl _ _)⟩), p14 := rc hi h.p14 (fun v h2 => h2.imp fun _ hx => ⟨hx.1, rds_on hx.2 (Below.refl _ _)⟩), p15 := rc hi h.p15 (fun v h2 => rds_on h2 (Below.refl _ _)), p16 := rp hi h.p16, p17 := rc hi h.p17 (fun v h2 => rds_on h2 (Below.refl _ _)), p18 := rp hi h.p18 }⟩
            · have hi : 11 < d.size := by omega
              have e10 := h.p10 (hpre _ rfl ⟨10, .data⟩ (by simp) rfl)
              obtain ⟨m0, m1, n0, n1⟩ := CQ.out wc h.bel
              refine wpOp_plain rfl rfl ?_
              go_simp
              exact ⟨_, rfl, { bel := h.bel, siz := (by simpa using h.siz), kp := rk h.kp, k2 := rs h.k2, k7 := rs h.k7, k9 := rs h.k9, k1 := rs h.k1, p0 := rp hi h.p0, p1 := rc hi h.p1 (fun v h2 => h2.on (Below.refl _ _)), p2 := rp hi h.p2, p3 := rp hi h.p3, p4 := rp hi h.p4, p5 := rp hi h.p5, p6 := rp hi h.p6, p7 := rp hi h.p7, p8 := rp hi h.p8, p9 := rp hi h.p9, p10 := rp hi h.p10, p11 := fun _ => set_same (by have := h.siz; omega), p12 := rp hi h.p12, p13 := rc hi h.p13 (fun v h2 => h2.imp fun _ hx => ⟨hx.1, rds_on hx.2 (Below.refl _ _)⟩), p14 := rc hi h.p14 (fun v h2 => h2.imp fun _ hx => ⟨hx.1, rds_on hx.2 (Below.refl _ _)⟩), p15 := rc hi h.p15 (fun v h2 => rds_on h2 (Below.refl _ _)), p16 := rp hi h.p16, p17 := rc hi h.p17 (fun v h2 => rds_on h2 (Below.refl _ _)), p18 := rp hi h.p18 }⟩
            · have hi : 12 < d.size := by omega
              have q1 := h.k1
              refine wpOp_plain rfl rfl ?_
              go_simp
              exact ⟨_, rfl, { bel := h.bel, siz := (by simpa using h.siz), kp := rk h.kp, k2 := rs h.k2, k7 := rs h.k7, k9 := rs h.k9, k1 := rs h.k1, p0 := rp hi h.p0, p1 := rc hi h.p1 (fun v h2 => h2.on (Below.refl _ _)), p2 := rp hi h.p2, p3 := rp hi h.p3, p4 := rp hi h.p4, p5 := rp hi h.p5, p6 := rp hi h.p6, p7 := rp hi h.p7, p8 := rp hi h.p8, p9 := rp hi h.p9, p10 := rp hi h.p10, p11 := rp hi h.p11, p12 := fun _ => set_same (by have := h.siz; omega), p13 := rc hi h.p13 (fun v h2 => h2.imp fun _ hx => ⟨hx.1, rds_on hx.2 (Below.refl _ _)⟩), p14 := rc hi h.p14 (fun v h2 => h2.imp fun _ hx => ⟨hx.1, rds_on hx.2 (Below.refl _ _)⟩), p15 := rc hi h.p15 (fun v h2 => rds_on h2 (Below.refl _ _)), p16 := rp hi h.p16, p17 := rc hi h.p17 (fun v h2 => rds_on h2 (Below.refl _ _)), p18 := rp hi h.p18 }⟩
            · have hi : 13 < d.size := by omega
              obtain ⟨v1, e1, r1⟩ := h.p1 (hpre _ rfl ⟨1, .data⟩ (by simp) rfl)
              have e6 := h.p6 (hpre _ rfl ⟨6, .data⟩ (by simp) rfl)
              have e11 := h.p11 (hpre _ rfl ⟨11, .data⟩ (by simp) rfl)
              have e12 := h.p12 (hpre _ rfl ⟨12, .data⟩ (by simp) rfl)
              refine wpOp_plain rfl rfl ?_
              go_simp
              refine (HBC.out wc v1 r1).mono ?_
              rintro e1 w1 ⟨y1, rfl, hq1, hb⟩
              exact ⟨_, rfl, { bel := h.bel.trans (hb.mono h.bel.size), siz := (by simpa using h.siz), kp := rk h.kp, k2 := rs h.k2, k7 := rs h.k7, k9 := rs h.k9, k1 := rs h.k1, p0 := rp hi h.p0, p1 := rc hi h.p1 (fun v h2 => h2.on hb), p2 := rp hi h.p2, p3 := rp hi h.p3, p4 := rp hi h.p4, p5 := rp hi h.p5, p6 := rp hi h.p6, p7 := rp hi h.p7, p8 := rp hi h.p8, p9 := rp hi h.p9, p10 := rp hi h.p10, p11 := rp hi h.p11, p12 := rp hi h.p12, p13 := fun _ => ⟨_, set_same (by have := h.siz; omega), _, rfl, hq1⟩, p14 := rc hi h.p14 (fun v h2 => h2.imp fun _ hx => ⟨hx.1, rds_on hx.2 hb⟩), p15 := rc hi h.p15 (fun v h2 => rds_on h2 hb), p16 := rp hi h.p16, p17 := rc hi h.p17 (fun v h2 => rds_on h2 hb), p18 := rp hi h.p18 }⟩
            · have hi : 14 < d.size := by omega
              obtain ⟨v13, e13, r13⟩ := h.p13 (hpre _ rfl ⟨13, .data⟩ (by simp) rfl)
              refine wpOp_plain rfl rfl ?_
              go_simp
              exact ⟨_, rfl, { bel := h.bel, siz := (by simpa using h.siz), kp := rk h.kp, k2 := rs h.k2, k7 := rs h.k7, k9 := rs h.k9, k1 := rs h.k1, p0 := rp hi h.p0, p1 := rc hi h.p1 (fun v h2 => h2.on (Below.refl _ _)), p2 := rp hi h.p2, p3 := rp hi h.p3, p4 := rp hi h.p4, p5 := rp hi h.p5, p6 := rp hi h.p6, p7 := rp hi h.p7, p8 := rp hi h.p8, p9 := rp hi h.p9, p10 := rp hi h.p10, p11 := rp hi h.p11, p12 := rp hi h.p12, p13 := rc hi h.p13 (fun v h2 => h2.imp fun _ hx => ⟨hx.1, rds_on hx.2 (Below.refl _ _)⟩), p14 := fun _ => ⟨v13, set_same (by have := h.siz; omega), r13⟩, p15 := rc hi h.p15 (fun v h2 => rds_on h2 (Below.refl _ _)), p16 := rp hi h.p16, p17 := rc hi h.p17 (fun v h2 => rds_on h2 (Below.refl _ _)), p18 := rp hi h.p18 }⟩
            · have hi : 15 < d.size := by omega
              obtain ⟨v14, e14, r14⟩ := h.p14 (hpre _ rfl ⟨14, .data⟩ (by simp) rfl)
              obtain ⟨y1, rfl, hq1⟩ := r14
              refine wpOp_plain rfl rfl ?_
              go_simp
              exact ⟨_, rfl, { bel := h.bel, siz := (by simpa using h.siz), kp := rk h.kp, k2 := rs h.k2, k7 := rs h.k7, k9 := rs h.k9, k1 := rs h.k1, p0 := rp hi h.p0, p1 := rc hi h.p1 (fun v h2 => h2.on (Below.refl _ _)), p2 := rp hi h.p2, p3 := rp hi h.p3, p4 := rp hi h.p4, p5 := rp hi h.p5, p6 := rp hi h.p6, p7 := rp hi h.p7, p8 := rp hi h.p8, p9 := rp hi h.p9, p10 := rp hi h.p10, p11 := rp hi h.p11, p12 := rp hi h.p12, p13 := rc hi h.p13 (fun v h2 => h2.imp fun _ hx => ⟨hx.1, rds_on hx.2 (Below.refl _ _)⟩), p14 := rc hi h.p14 (fun v h2 => h2.imp fun _ hx => ⟨hx.1, rds_on hx.2 (Below.refl _ _)⟩), p15 := fun _ => ⟨_, set_same (by have := h.siz; omega), hq1⟩, p16 := rp hi h.p16, p17 := rc hi h.p17 (fun v h2 => rds_on h2 (Below.refl _ _)), p18 := rp hi h.p18 }⟩
            · have hi : 16 < d.size := by omega
              obtain ⟨v14, e14, r14⟩ := h.p14 (hpre _ rfl ⟨14, .data⟩ (by simp) rfl)
              obtain ⟨y1, rfl, hq1⟩ := r14
              refine wpOp_plain rfl rfl ?_
              go_simp
              exact ⟨_, rfl, { bel := h.bel, siz := (by simpa using h.siz), kp := rk h.kp, k2 := rs h.k2, k7 := rs h.k7, k9 := rs h.k9, k1 := rs h.k1, p0 := rp hi h.p0, p1 := rc hi h.p1 (fun v h2 => h2.on (Below.refl _ _)), p2 := rp hi h.p2, p3 := rp hi h.p3, p4 := rp hi h.p4, p5 := rp hi h.p5, p6 := rp hi h.p6, p7 := rp hi h.p7, p8 := rp hi h.p8, p9 := rp hi h.p9, p10 := rp hi h.p10, p11 := rp hi h.p11, p12 := rp hi h.p12, p13 := rc hi h.p13 (fun v h2 => h2.imp fun _ hx => ⟨hx.1, rds_on hx.2 (Below.refl _ _)⟩), p14 := rc hi h.p14 (fun v h2 => h2.imp fun _ hx => ⟨hx.1, rds_on hx.2 (Below.refl _ _)⟩), p15 := rc hi h.p15 (fun v h2 => rds_on h2 (Below.refl _ _)), p16 := fun _ => set_same (by have := h.siz; omega), p17 := rc hi h.p17 (fun v h2 => rds_on h2 (Below.refl _ _)), p18 := rp hi h.p18 }⟩
            · have hi : 17 < d.size := by omega
              obtain ⟨v15, e15, r15⟩ := h.p15 (hpre _ rfl ⟨15, .data⟩ (by simp) rfl)
              refine wpOp_plain rfl rfl ?_
              go_simp
              exact ⟨_, rfl, { bel := h.bel, siz := (by simpa using h.siz), kp := rk h.kp, k2 := rs h.k2, k7 := rs h.k7, k9 := rs h.k9, k1 := rs h.k1, p0 := rp hi h.p0, p1 := rc hi h.p1 (fun v h2 => h2.on (Below.refl _ _)), p2 := rp hi h.p2, p3 := rp hi h.p3, p4 := rp hi h.p4, p5 := rp hi h.p5, p6 := rp hi h.p6, p7 := rp hi h.p7, p8 := rp hi h.p8, p9 := rp hi h.p9, p10 := rp hi h.p10, p11 := rp hi h.p11, p12 := rp hi h.p12, p13 := rc hi h.p13 (fun v h2 => h2.imp fun _ hx => ⟨hx.1, rds_on hx.2 (Below.refl _ _)⟩), p14 := rc hi h.p14 (fun v h2 => h2.imp fun _ hx => ⟨hx.1, rds_on hx.2 (Below.refl _ _)⟩), p15 := rc hi h.p15 (fun v h2 => rds_on h2 (Below.refl _ _)), p16 := rp hi h.p16, p17 := fun _ => ⟨v15, set_same (by have := h.siz; omega), r15⟩, p18 := rp hi h.p18 }⟩
            · have hi : 18 < d.size := by omega
              have e16 := h.p16 (hpre _ rfl ⟨16, .data⟩ (by simp) rfl)
              refine wpOp_plain rfl rfl ?_
              go_simp
              exact ⟨_, rfl, { bel := h.bel, siz := (by simpa using h.siz), kp := rk h.kp, k2 := rs h.k2, k7 := rs h.k7, k9 := rs h.k9, k1 := rs h.k1, p0 := rp hi h.p0, p1 := rc hi h.p1 (fun v h2 => h2.on (Below.refl _ _)), p2 := rp hi h.p2, p3 := rp hi h.p3, p4 := rp hi h.p4, p5 := rp hi h.p5, p6 := rp hi h.p6, p7 := rp hi h.p7, p8 := rp hi h.p8, p9 := rp hi h.p9, p10 := rp hi h.p10, p11 := rp hi h.p11, p12 := rp hi h.p12, p13 := rc hi h.p13 (fun v h2 => h2.imp fun _ hx => ⟨hx.1, rds_on hx.2 (Below.refl _ _)⟩), p14 := rc hi h.p14 (fun v h2 => h2.imp fun _ hx => ⟨hx.1, rds_on hx.2 (Below.refl _ _)⟩), p15 := rc hi h.p15 (fun v h2 => rds_on h2 (Below.refl _ _)), p16 := rp hi h.p16, p17 := rc hi h.p17 (fun v h2 => rds_on h2 (Below.refl _ _)), p18 := fun _ => set_same (by have := h.siz; omega) }⟩
          case genda =>
            intro d a wc hd hI hall
            obtain ⟨t, rfl, h⟩ := hI
            have hdn : ∀ j, j < 19 → dn d j := fun j hj => dn_all hd hall hj
            have hd : ∀ j, (_ : j < 19 := by decide) → dn d j := fun j hj => hdn j hj
            obtain ⟨v17, e17, r17⟩ := h.p17 (hd 17)
            obtain ⟨v14, e14, r14⟩ := h.p14 (hd 14)
            obtain ⟨v1, e1, r1⟩ := h.p1 (hd 1)
            obtain ⟨v13, e13, r13⟩ := h.p13 (hd 13)
            obtain ⟨v15, e15, r15⟩ := h.p15 (hd 15)
            have hfe := frame_eq [(10, v17), (11, _), (61, v14), (62, _), (63, v1), (64, _), (65, _), (66, _), (67, _), (68, _), (69, _), (70, _), (71, _), (72, _), (73, _), (74, _), (75, v13), (76, v15), (77, _)] (h.siz.trans rfl) h.kp rfl ⟨e17, h.p18 (hd 18), e14, h.p0 (hd 0), e1, h.p2 (hd 2), h.p3 (hd 3), h.p4 (hd 4), h.p5 (hd 5), h.p6 (hd 6), h.p7 (hd 7), h.p8 (hd 8), h.p9 (hd 9), h.p10 (hd 10), h.p11 (hd 11), h.p12 (hd 12), e13, e15, h.p16 (hd 16), trivial⟩
            simp only [List.foldl_cons, List.foldl_nil, List.setIfInBounds_toArray, List.set_cons_succ, List.set_cons_zero] at hfe
            have hbc := h.bel
            subst hfe
            clear h hdn hd hall
            have HRQ := Lib.hid r17
            have HBC2 := Lib.hid (HBQ.out.trans (hbc.mono HBQ.out.size))
            have HQC := Lib.hid hbc
            obtain ⟨A7, c7, rfl, hl7, hc7⟩ := rds_form r17
            clear hbc r17 r15 r14 r13 r1 hl7 hc7
            go_wp2_with fail
            go_loopg [12, 13] Q.length (fun g fd i wz => ∃ (j : Nat) (fb : Bool), j ≤ Q.length ∧ g = Q.length - j ∧ i = .int .i64 (j : Nat) ∧ fd = .bool fb ∧ fb = (Q.take j).any (fun z => decide (z = (k : Int))) ∧ wz = wc)
            case atStart => exact ⟨0, false, Nat.zero_le _, rfl, rfl, rfl, rfl, rfl⟩
            case round =>
              obtain ⟨j, fb, hj, rfl, rfl, rfl, hfb, rfl⟩ := hrel
              have HFB := Lib.hid hfb
              clear hfb
              by_cases hjt : j < Q.length
              · obtain ⟨x, hx⟩ : ∃ x, Q[j]? = some x := ⟨_, List.getElem?_eq_getElem hjt⟩
                obtain ⟨b3, o3, rfl, hb3', hc3⟩ := ints_ex HRQ.out (by omega)
                have f0 := hc3 j x hx
                have HNX : Hid ((Q.take (j + 1)).any (fun z => decide (z = (k : Int))) = (fb || decide (x = (k : Int)))) := Lib.hid (by
                  rw [List.take_add_one, hx, List.any_append, ← HFB.out]; simp)
                have hj0 : (0 : Int) ≤ (j : Int) := by omega
                have hj1 : (j : Int) < (Q.length : Int) := by omega
                clear hc3 hx
                cases fb
                case true =>
                  go_wp2_with fail
                  go_roundg (Q.length - (j + 1))
                  case measure => omega
                  case rel => exact ⟨j + 1, true, by omega, rfl, by go_num, rfl, by rw [HNX.out]; rfl, rfl⟩
                case false =>
                  by_cases hxk : x = (k : Int)
                  · have HX1 : Hid ((Q.take (j + 1)).any (fun z => decide (z = (k : Int))) = true) := Lib.hid (by rw [HNX.out, hxk]; simp)
                    have hxk' : (x == (k : Int)) = true := by rw [beq_iff_eq]; exact hxk
                    clear hxk
                    go_wp2_with fail
                    go_roundg (Q.length - (j + 1))
                    case measure => omega
                    case rel => exact ⟨j + 1, true, by omega, rfl, by go_num, rfl, by rw [HX1.out], rfl⟩
                  · have HX1 : Hid ((Q.take (j + 1)).any (fun z => decide (z = (k : Int))) = false) := Lib.hid (by rw [HNX.out, decide_eq_false hxk]; rfl)
                    have hxk' : (x == (k : Int)) = false := by rw [beq_eq_false_iff_ne]; exact hxk
                    clear hxk
                    go_wp2_with fail
                    go_roundg (Q.length - (j + 1))
                    case measure => omega
                    case rel => exact ⟨j + 1, false, by omega, rfl, by go_num, rfl, by rw [HX1.out], rfl⟩
              · have hfd : fb = true := by
                  rw [HFB.out, List.take_of_length_le (by omega), List.any_eq_true]
                  exact ⟨_, HMEM.out, by simp⟩
                subst hfd
                have hj1 : ¬ (j : Int) < (Q.length : Int) := by omega
                have HO1 := Lib.hid (keep_own HON.out HQC.out)
                have HV1 := Lib.hid (keep_own HOV.out HQC.out)
                obtain ⟨m0, m1, n0, n1⟩ := CQ0.out wr HQC.out
                by_cases hk1 : kd = 1
                case neg =>
                  have HNN := Lib.hid (Sg.named_next HNMQ.out)
                  go_wp2_with fail
                  go_roundg (vs.length - (m + 1))
                  case measure => omega
                  case rel => exact ⟨m + 1, q, by omega, rfl, by go_num, HBC2.out, HO1.out, HV1.out, HNN.out, by have := HQL.out; omega⟩
                subst hk1
                obtain ⟨nm, hnm⟩ : ∃ nm, nm = Sg.nameN l k tx per := ⟨_, rfl⟩
                have hrd := Sg.name_read HCL.out HPB.out HS.out HTB.out HHS.out
                rw [← hnm] at hrd
                have HRN := Lib.hid hrd.2
                have HNS : Hid (nm.size ≤ 1000000) := Lib.hid (by
                  rw [hnm]
                  exact Sg.name_size HCL.out HPB.out HS.out HTB.out HHS.out)
                have hnw := @Sg.named_new l per k m q s ⟨1, tx, lo, hi⟩ HCL.out HPB.out HNMQ.out HS.out HYS.out rfl
                simp only at hnw
                rw [← hnm] at hnw
                have HNEW : Hid (nm ∉ q) := Lib.hid hnw
                have HNE : Hid (nm = Sg.nameN l k tx per) := Lib.hid hnm
                have HCP := Lib.hid fun (W : World) (hW : Below wr.heap.size wr W) => HCP3.out W (HBC2.out.trans (hW.mono HBC2.out.size))
                have CQ := Lib.hid fun (W : World) (hW : Below wr.heap.size wr W) => CQ0.out W (HQC.out.trans (hW.mono HQC.out.size))
                have HNC := Lib.hid fun (W : World) (hW : Below wr.heap.size wr W) (z : Value) (hz : RdSL W W.heap.size z l) => gName_any z l (k : Nat) tx per W hz HTZ.out (HGT.out W (HB3.out.trans ((HBC2.out.trans (hW.mono HBC2.out.size)).mono HB3.out.size))).2
                rw [hrd.1] at HNC
                clear hnm hrd hnw
                go_upto_region 22 with fail
                clear m0 m1 n0 n1
                refine wp_region_inv2T (fun T0 => LseI T0 wr l A0 c0 per w.heap.size b off vs.length cv m 1 tx k nm) (by kernel_rfl) (by kernel_rfl) ?g0b ?gstepb ?gendb
                case g0b =>
                  have hno : ∀ j, ¬ dn (Array.replicate 15 false) j := by
                    intro j; unfold dn; by_cases hj : j < 15 <;> simp [Array.getD, hj]
                  have na : ∀ {j : Nat} {Z : Prop}, dn (Array.replicate 15 false) j → Z := fun hj => absurd hj (hno _)
                  exact ⟨_, rfl, { bel := (Below.refl _ _).drew, siz := rfl, kp := fun _ _ => rfl, k2 := rfl, k6 := rfl, k7 := rfl, k9 := rfl, k1 := rfl, p0 := na, p1 := fun hj => absurd hj (hno _), p2 := na, p3 := na, p4 := na, p5 := na, p6 := na, p7 := na, p8 := na, p9 := na, p10 := na, p11 := na, p12 := na, p13 := na, p14 := na }⟩
                case gstepb =>
                  intro T0 d a wc i hd hI hi
                  obtain ⟨hlt, hnd, hpre⟩ := mem_ready hi
                  have hd' : d.size = 15 := hd
                  have hin : i < 15 := hlt
                  clear hi hd hlt
                  obtain ⟨t, rfl, h⟩ := hI
                  have hcs : i = 0 ∨ i = 1 ∨ i = 2 ∨ i = 3 ∨ i = 4 ∨ i = 5 ∨ i = 6 ∨ i = 7 ∨ i = 8 ∨ i = 9 ∨ i = 10 ∨ i = 11 ∨ i = 12 ∨ i = 13 ∨ i = 14 := by omega
                  rcases hcs with rfl | rfl | rfl | rfl | rfl | rfl | rfl | rfl | rfl | rfl | rfl | rfl | rfl | rfl | rfl
                  · have hi : 0 < d.size := by omega
                    have q2 := h.k2
                    obtain ⟨m0, m1, n0, n1⟩ := CQ.out wc h.bel
                    refine wpOp_plain rfl rfl ?_
                    go_simp
                    exact ⟨_, rfl, { bel := h.bel, siz := (by simpa using h.siz), kp := rk h.kp, k2 := rs h.k2, k6 := rs h.k6, k7 := rs h.k7, k9 := rs h.k9, k1 := rs h.k1, p0 := fun _ => set_same (by have := h.siz; omega), p1 := rc hi h.p1 (fun v h2 => h2.on (Below.refl _ _)), p2 := rp hi h.p2, p3 := rp hi h.p3, p4 := rp hi h.p4, p5 := rp hi h.p5, p6 := rp hi h.p6, p7 := rp hi h.p7, p8 := rp hi h.p8, p9 := rp hi h.p9, p10 := rp hi h.p10, p11 := rp hi h.p11, p12 := rp hi h.p12, p13 := rp hi h.p13, p14 := rp hi h.p14 }⟩
                  · have hi : 1 < d.size := by omega
                    have e0 := h.p0 (hpre _ rfl ⟨0, .data⟩ (by simp) rfl)
                    refine wpOp_plain rfl rfl ?_
                    go_simp
                    refine (HCP.out wc h.bel).mono ?_
                    rintro e1 w1 ⟨y1, rfl, hq1, hb⟩
                    exact ⟨_, rfl, { bel := h.bel.trans (hb.mono h.bel.size), siz := (by simpa using h.siz), kp := rk h.kp, k2 := rs h.k2, k6 := rs h.k6, k7 := rs h.k7, k9 := rs h.k9, k1 := rs h.k1, p0 := rp hi h.p0, p1 := fun _ => ⟨_, set_same (by have := h.siz; omega), hq1⟩, p2 := rp hi h.p2, p3 := rp hi h.p3, p4 := rp hi h.p4, p5 := rp hi h.p5, p6 := rp hi h.p6, p7 := rp hi h.p7, p8 := rp hi h.p8, p9 := rp hi h.p9, p10 := rp hi h.p10, p11 := rp hi h.p11, p12 := rp hi h.p12, p13 := rp hi h.p13, p14 := rp hi h.p14 }⟩
                  · have hi : 2 < d.size := by omega
                    have q6 := h.k6
                    refine wpOp_plain rfl rfl ?_
                    go_simp
                    exact ⟨_, rfl, { bel := h.bel, siz := (by simpa using h.siz), kp := rk h.kp, k2 := rs h.k2, k6 := rs h.k6, k7 := rs h.k7, k9 := rs h.k9, k1 := rs h.k1, p0 := rp hi h.p0, p1 := rc hi h.p1 (fun v h2 => h2.on (Below.refl _ _)), p2 := fun _ => set_same (by have := h.siz; omega), p3 := rp hi h.p3, p4 := rp hi h.p4, p5 := rp hi h.p5, p6 := rp hi h.p6, p7 := rp hi h.p7, p8 := rp hi h.p8, p9 := rp hi h.p9, p10 := rp hi h.p10, p11 := rp hi h.p11, p12 := rp hi h.p12, p13 := rp hi h.p13, p14 := rp hi h.p14 }⟩
                  · have hi : 3 < d.size := by omega
                    have q7 := h.k7
                    refine wpOp_plain rfl rfl ?_
                    go_simp
                    exact ⟨_, rfl, { bel := h.bel, siz := (by simpa using h.siz), kp := rk h.kp, k2 := rs h.k2, k6 := rs h.k6, k7 := rs h.k7, k9 := rs h.k9, k1 := rs h.k1, p0 := rp hi h.p0, p1 := rc hi h.p1 (fun v h2 => h2.on (Below.refl _ _)), p2 := rp hi h.p2, p3 := fun _ => set_same (by have := h.siz; omega), p4 := rp hi h.p4, p5 := rp hi h.p5, p6 := rp hi h.p6, p7 := rp hi h.p7, p8 := rp hi h.p8, p9 := rp hi h.p9, p10 := rp hi h.p10, p11 := rp hi h.p11, p12 := rp hi h.p12, p13 := rp hi h.p13, p14 := rp hi h.p14 }⟩
                  · have hi : 4 < d.size := by omega
                    have q9 := h.k9
                    refine wpOp_plain rfl rfl ?_
                    go_simp
                    exact ⟨_, rfl, { bel := h.bel, siz := (by simpa using h.siz), kp := rk h.kp, k2 := rs h.k2, k6 := rs h.k6, k7 := rs h.k7, k9 := rs h.k9, k1 := rs h.k1, p0 := rp hi h.p0, p1 := rc hi h.p1 (fun v h2 => h2.on (Below.refl _ _)), p2 := rp hi h.p2, p3 := rp hi h.p3, p4 := fun _ => set_same (by have := h.siz; omega), p5 := rp hi h.p5, p6 := rp hi h.p6, p7 := rp hi h.p7, p8 := rp hi h.p8, p9 := rp hi h.p9, p10 := rp hi h.p10, p11 := rp hi h.p11, p12 := rp hi h.p12, p13 := rp hi h.p13, p14 := rp hi h.p14 }⟩
                  · have hi : 5 < d.size := by omega
                    have e3 := h.p3 (hpre _ rfl ⟨3, .data⟩ (by simp) rfl)
                    have e4 := h.p4 (hpre _ rfl ⟨4, .data⟩ (by simp) rfl)
                    refine wpOp_plain rfl rfl ?_
                    go_simp
                    exact ⟨_, rfl, { bel := h.bel, siz := (by simpa using h.siz), kp := rk h.kp, k2 := rs h.k2, k6 := rs h.k6, k7 := rs h.k7, k9 := rs h.k9, k1 := rs h.k1, p0 := rp hi h.p0, p1 := rc hi h.p1 (fun v h2 => h2.on (Below.refl _ _)), p2 := rp hi h.p2, p3 := rp hi h.p3, p4 := rp hi h.p4, p5 := fun _ => set_same (by have := h.siz; omega), p6 := rp hi h.p6, p7 := rp hi h.p7, p8 := rp hi h.p8, p9 := rp hi h.p9, p10 := rp hi h.p10, p11 := rp hi h.p11, p12 := rp hi h.p12, p13 := rp hi h.p13, p14 := rp hi h.p14 }⟩
                  · have hi : 6 < d.size := by omega
                    have e5 := h.p5 (hpre _ rfl ⟨5, .data⟩ (by simp) rfl)
                    refine wpOp_plain rfl rfl ?_
                    go_simp
                    exact ⟨_, rfl, { bel := h.bel, siz := (by simpa using h.siz), kp := rk h.kp, k2 := rs h.k2, k6 := rs h.k6, k7 := rs h.k7, k9 := rs h.k9, k1 := rs h.k1, p0 := rp hi h.p0, p1 := rc hi h.p1 (fun v h2 => h2.on (Below.refl _ _)), p2 := rp hi h.p2, p3 := rp hi h.p3, p4 := rp hi h.p4, p5 := rp hi h.p5, p6 := fun _ => set_same (by have := h.siz; omega), p7 := rp hi h.p7, p8 := rp hi h.p8, p9 := rp hi h.p9, p10 := rp hi h.p10, p11 := rp hi h.p11, p12 := rp hi h.p12, p13 := rp hi h.p13, p14 := rp hi h.p14 }⟩
                  · have hi : 7 < d.size := by omega
                    have e6 := h.p6 (hpre _ rfl ⟨6, .data⟩ (by simp) rfl)
                    obtain ⟨m0, m1, n0, n1⟩ := CQ.out wc h.bel
                    refine wpOp_plain rfl rfl ?_
                    go_simp
                    exact ⟨_, rfl, { bel := h.bel, siz := (by simpa using h.siz), kp := rk h.kp, k2 := rs h.k2, k6 := rs h.k6, k7 := rs h.k7, k9 := rs h.k9, k1 := rs h.k1, p0 := rp hi h.p0, p1 := rc hi h.p1 (fun v h2 => h2.on (Below.refl _ _)), p2 := rp hi h.p2, p3 := rp hi h.p3, p4 := rp hi h.p4, p5 := rp hi h.p5, p6 := rp hi h.p6, p7 := fun _ => set_same (by have := h.siz; omega), p8 := rp hi h.p8, p9 := rp hi h.p9, p10 := rp hi h.p10, p11 := rp hi h.p11, p12 := rp hi h.p12, p13 := rp hi h.p13, p14 := rp hi h.p14 }⟩
                  · have hi : 8 < d.size := by omega
                    have q1 := h.k1
                    refine wpOp_plain rfl rfl ?_
                    go_simp
                    exact ⟨_, rfl, { bel := h.bel, siz := (by simpa using h.siz), kp := rk h.kp, k2 := rs h.k2, k6 := rs h.k6, k7 := rs h.k7, k9 := rs h.k9, k1 := rs h.k1, p0 := rp hi h.p0, p1 := rc hi h.p1 (fun v h2 => h2.on (Below.refl _ _)), p2 := rp hi h.p2, p3 := rp hi h.p3, p4 := rp hi h.p4, p5 := rp hi h.p5, p6 := rp hi h.p6, p7 := rp hi h.p7, p8 := fun _ => set_same (by have := h.siz; omega), p9 := rp hi h.p9, p10 := rp hi h.p10, p11 := rp hi h.p11, p12 := rp hi h.p12, p13 := rp hi h.p13, p14 := rp hi h.p14 }⟩
                  · have hi : 9 < d.size := by omega
                    obtain ⟨v1, e1, r1⟩ := h.p1 (hpre _ rfl ⟨1, .data⟩ (by simp) rfl)
                    have e2 := h.p2 (hpre _ rfl ⟨2, .data⟩ (by simp) rfl)
                    have e7 := h.p7 (hpre _ rfl ⟨7, .data⟩ (by simp) rfl)
                    have e8 := h.p8 (hpre _ rfl ⟨8, .data⟩ (by simp) rfl)
                    refine wpOp_plain rfl rfl ?_
                    go_simp
                    refine (HNC.out wc h.bel v1 r1).mono ?_
                    rintro e1 w1 ⟨rfl, hb⟩
                    exact ⟨_, rfl, { bel := h.bel.trans (hb.mono h.bel.size), siz := (by simpa using h.siz), kp := rk h.kp, k2 := rs h.k2, k6 := rs h.k6, k7 := rs h.k7, k9 := rs h.k9, k1 := rs h.k1, p0 := rp hi h.p0, p1 := rc hi h.p1 (fun v h2 => h2.on hb), p2 := rp hi h.p2, p3 := rp hi h.p3, p4 := rp hi h.p4, p5 := rp hi h.p5, p6 := rp hi h.p6, p7 := rp hi h.p7, p8 := rp hi h.p8, p9 := fun _ => set_same (by have := h.siz; omega), p10 := rp hi h.p10, p11 := rp hi h.p11, p12 := rp hi h.p12, p13 := rp hi h.p13, p14 := rp hi h.p14 }⟩
                  · have hi : 10 < d.size := by omega
                    have e9 := h.p9 (hpre _ rfl ⟨9, .data⟩ (by simp) rfl)
                    refine wpOp_plain rfl rfl ?_
                    go_simp
                    exact ⟨_, rfl, { bel := h.bel, siz := (by simpa using h.siz), kp := rk h.kp, k2 := rs h.k2, k6 := rs h.k6, k7 := rs h.k7, k9 := rs h.k9, k1 := rs h.k1, p0 := rp hi h.p0, p1 := rc hi h.p1 (fun v h2 => h2.on (Below.refl _ _)), p2 := rp hi h.p2, p3 := rp hi h.p3, p4 := rp hi h.p4, p5 := rp hi h.p5, p6 := rp hi h.p6, p7 := rp hi h.p7, p8 := rp hi h.p8, p9 := rp hi h.p9, p10 := fun _ => set_same (by have := h.siz; omega), p11 := rp hi h.p11, p12 := rp hi h.p12, p13 := rp hi h.p13, p14 := rp hi h.p14 }⟩
                  · have hi : 11 < d.size := by omega
                    have e10 := h.p10 (hpre _ rfl ⟨10, .data⟩ (by simp) rfl)
                    refine wpOp_plain rfl rfl ?_
                    go_simp
                    exact ⟨_, rfl, { bel := h.bel, siz := (by simpa using h.siz), kp := rk h.kp, k2 := rs h.k2, k6 := rs h.k6, k7 := rs h.k7, k9 := rs h.k9, k1 := rs h.k1, p0 := rp hi h.p0, p1 := rc hi h.p1 (fun v h2 => h2.on (Below.refl _ _)), p2 := rp hi h.p2, p3 := rp hi h.p3, p4 := rp hi h.p4, p5 := rp hi h.p5, p6 := rp hi h.p6, p7 := rp hi h.p7, p8 := rp hi h.p8, p9 := rp hi h.p9, p10 := rp hi h.p10, p11 := fun _ => set_same (by have := h.siz; omega), p12 := rp hi h.p12, p13 := rp hi h.p13, p14 := rp hi h.p14 }⟩
                  · have hi : 12 < d.size := by omega
                    have e10 := h.p10 (hpre _ rfl ⟨10, .data⟩ (by simp) rfl)
                    refine wpOp_plain rfl rfl ?_
                    go_simp
                    exact ⟨_, rfl, { bel := h.bel, siz := (by simpa using h.siz), kp := rk h.kp, k2 := rs h.k2, k6 := rs h.k6, k7 := rs h.k7, k9 := rs h.k9, k1 := rs h.k1, p0 := rp hi h.p0, p1 := rc hi h.p1 (fun v h2 => h2.on (Below.refl _ _)), p2 := rp hi h.p2, p3 := rp hi h.p3, p4 := rp hi h.p4, p5 := rp hi h.p5, p6 := rp hi h.p6, p7 := rp hi h.p7, p8 := rp hi h.p8, p9 := rp hi h.p9, p10 := rp hi h.p10, p11 := rp hi h.p11, p12 := fun _ => set_same (by have := h.siz; omega), p13 := rp hi h.p13, p14 := rp hi h.p14 }⟩
                  · have hi : 13 < d.size := by omega
                    have e11 := h.p11 (hpre _ rfl ⟨11, .data⟩ (by simp) rfl)
                    refine wpOp_plain rfl rfl ?_
                    go_simp
                    exact ⟨_, rfl, { bel := h.bel, siz := (by simpa using h.siz), kp := rk h.kp, k2 := rs h.k2, k6 := rs h.k6, k7 := rs h.k7, k9 := rs h.k9, k1 := rs h.k1, p0 := rp hi h.p0, p1 := rc hi h.p1 (fun v h2 => h2.on (Below.refl _ _)), p2 := rp hi h.p2, p3 := rp hi h.p3, p4 := rp hi h.p4, p5 := rp hi h.p5, p6 := rp hi h.p6, p7 := rp hi h.p7, p8 := rp hi h.p8, p9 := rp hi h.p9, p10 := rp hi h.p10, p11 := rp hi h.p11, p12 := rp hi h.p12, p13 := fun _ => set_same (by have := h.siz; omega), p14 := rp hi h.p14 }⟩
                  · have hi : 14 < d.size := by omega
                    have e12 := h.p12 (hpre _ rfl ⟨12, .data⟩ (by simp) rfl)
                    refine wpOp_plain rfl rfl ?_
                    go_simp
                    exact ⟨_, rfl, { bel := h.bel, siz := (by simpa using h.siz), kp := rk h.kp, k2 := rs h.k2, k6 := rs h.k6, k7 := rs h.k7, k9 := rs h.k9, k1 := rs h.k1, p0 := rp hi h.p0, p1 := rc hi h.p1 (fun v h2 => h2.on (Below.refl _ _)), p2 := rp hi h.p2, p3 := rp hi h.p3, p4 := rp hi h.p4, p5 := rp hi h.p5, p6 := rp hi h.p6, p7 := rp hi h.p7, p8 := rp hi h.p8, p9 := rp hi h.p9, p10 := rp hi h.p10, p11 := rp hi h.p11, p12 := rp hi h.p12, p13 := rp hi h.p13, p14 := fun _ => set_same (by have := h.siz; omega) }⟩
                case gendb =>
                  intro d a wc hd hI hall
                  obtain ⟨t, rfl, h⟩ := hI
                  have hdn : ∀ j, j < 15 → dn d j := fun j hj => dn_all hd hall hj
                  have hd : ∀ j, (_ : j < 15 := by decide) → dn d j := fun j hj => hdn j hj
                  obtain ⟨v1, e1, r1⟩ := h.p1 (hd 1)
                  have hfe := frame_eq [(14, _), (15, _), (105, _), (106, _), (107, v1), (108, _), (109, _), (110, _), (111, _), (112, _), (113, _), (114, _), (115, _), (116, _), (117, _)] (h.siz.trans rfl) h.kp rfl ⟨h.p13 (hd 13), h.p14 (hd 14), h.p10 (hd 10), h.p0 (hd 0), e1, h.p2 (hd 2), h.p3 (hd 3), h.p4 (hd 4), h.p5 (hd 5), h.p6 (hd 6), h.p7 (hd 7), h.p8 (hd 8), h.p9 (hd 9), h.p11 (hd 11), h.p12 (hd 12), trivial⟩
                  simp only [List.foldl_cons, List.foldl_nil, List.setIfInBounds_toArray, List.set_cons_succ, List.set_cons_zero] at hfe
                  have hbc := h.bel
                  subst hfe
                  clear h hdn hd hall
                  have HBD := Lib.hid (HBC2.out.trans (hbc.mono HBC2.out.size))
                  have HD1 := Lib.hid (HQC.out.trans (hbc.mono HQC.out.size))
                  clear hbc
                  obtain ⟨m0, m1, n0, n1⟩ := CQ0.out wc HD1.out
                  go_wp2_with fail
                  refine (HCP3.out wc HBD.out).mono ?_
                  rintro e w8 ⟨v8, rfl, hr8, hb8⟩
                  have HB8 := Lib.hid (HBD.out.trans (hb8.mono HBD.out.size))
                  have HD8 := Lib.hid (HD1.out.trans (hb8.mono HD1.out.size))
                  have HPN := Lib.hid (gParseName_any v8 l nm per w8 hr8 HNS.out (HEG.out w8 (HB3.out.trans (HB8.out.mono HB3.out.size))))
                  rw [HRN.out] at HPN
                  clear hb8 hr8 m0 m1 n0 n1
                  go_wp2_with fail
                  refine HPN.out.mono ?_
                  rintro e w9 ⟨rfl, hb9⟩
                  have HB9 := Lib.hid (HB8.out.trans (hb9.mono HB8.out.size))
                  have HD9 := Lib.hid (HD8.out.trans (hb9.mono HD8.out.size))
                  clear hb9
                  have HO9 := Lib.hid (keep_own HON.out HD9.out)
                  have HV9 := Lib.hid (keep_own HOV.out HD9.out)
                  obtain ⟨m0, m1, n0, n1⟩ := CQ0.out w9 HD9.out
                  go_wp2_with fail
                  clear m0 m1 n0 n1
                  go_loopg [19] q.length (fun g i wz => ∃ j : Nat, j ≤ q.length ∧ g = q.length - j ∧ i = .int .i64 (j : Nat) ∧ wz = w9)
                  case atStart => exact ⟨0, Nat.zero_le _, rfl, rfl, rfl⟩
                  case round =>
                    obtain ⟨j, hj, rfl, rfl, rfl⟩ := hrel
                    by_cases hjt : j < q.length
                    · obtain ⟨x, hx⟩ : ∃ x, q[j]? = some x := ⟨_, List.getElem?_eq_getElem hjt⟩
                      obtain ⟨b3, o3, rfl, hb3', hc3⟩ := strs_ex (rds_of_own len_str HO9.out) (by omega)
                      have f0 := hc3 j x hx
                      have hne : (x.toList == nm.toList) = false := Lx.toList_ne fun e => HNEW.out (by rw [← e]; exact List.mem_of_getElem? hx)
                      have hj0 : (0 : Int) ≤ (j : Int) := by omega
                      have hj1 : (j : Int) < (q.length : Int) := by omega
                      clear hc3 hx
                      go_wp2_with fail
                      go_roundg (q.length - (j + 1))
                      case measure => omega
                      case rel => exact ⟨j + 1, by omega, rfl, by go_num, rfl⟩
                    · have hj1 : ¬ (j : Int) < (q.length : Int) := by omega
                      have HOS : Hid ((wr.alloc (.cells #[.string nm] 9)).ownsRow w3.heap.size 9 1 (.slice An q.length cn) q.length (q.flatMap encStr)) := Lib.hid (keep_own HO9.out ((Below.refl _ _).alloc (Nat.le_refl _) _))
                      have HVS : Hid ((wr.alloc (.cells #[.string nm] 9)).ownsRow w4.heap.size 60 4 (.slice (some ⟨b, off, none⟩) vs.length cv) vs.length (vs.flatMap encValue)) := Lib.hid (keep_own HV9.out ((Below.refl _ _).alloc (Nat.le_refl _) _))
                      have HRD := Lib.hid (rd_one_strN wr nm)
                      have hk1 : q.length + 1 ≤ maxLen := by have := HQL.out; have := HKL.out; simp only [maxLen]; omega
                      have hk2 : (q.length + 1) * 16 ≤ 140737488355328 := by have := HQL.out; have := HKL.out; omega
                      have hbase : w3.heap.size ≤ (wr.alloc (.cells #[.string nm] 9)).heap.size := by have := HB9.out.size; simp; omega
                      go_wp2_with (at_builtin; go_must (refine wpList_append_rd (enc := encStr) rfl (.tmp 159) (.tmp 161) _ rfl w3.heap.size 9 i1 _ 1 16 len_str one_str Tryz.underlying58 hi1 hz1 hs1' hb1' rfl (by decide) (.slice An q.length cn) q.length (q.flatMap encStr) rfl HOS.out _ (.slice (some ⟨wr.heap.size, 0, none⟩) 1 1) [nm] rfl HRD.out hk1 hk2 hbase ?_))
                      intro va wa howna hga hata
                      have HBA : Hid (Below w3.heap.size w3 wa) := Lib.hid ((HB9.out.alloc HB9.out.size _).grown hga hbase (fun q hq => (HOS.out.lt q hq).1))
                      have HOA := Lib.hid (own_strN howna)
                      have HVA := Lib.hid (HVS.out.kept hga (own_apart HVS.out HOS.out (by decide)))
                      have hna := @Sg.named_add l per k m q s ⟨1, tx, lo, hi⟩ HNMQ.out HS.out HYS.out rfl
                      simp only at hna
                      rw [← HNE.out] at hna
                      have HNA := Lib.hid hna
                      clear hna
                      clear howna hga hata
                      go_wp2_with fail
                      go_roundg (vs.length - (m + 1))
                      case measure => omega
                      case rel => exact ⟨m + 1, q ++ [nm], by omega, rfl, by go_num, HBA.out, HOA.out, HVA.out, HNA.out, by have := HQL.out; simp only [List.length_append, List.length_singleton]; omega⟩
        · have hm1 : ¬ (m : Int) < (vs.length : Int) := by omega
          have HNR : Hid (Sg.Named l per (k + 1) 0 q) := Lib.hid (Sg.named_row HNMQ.out)
          have hmv : m = vs.length := by omega
          have HQK : Hid (q.length ≤ 12 * (k + 1)) := Lib.hid (by have := HQL.out; omega)
          clear hmv hownv
          go_wp2_with fail
          go_roundg (l.signs.length - (k + 1))
          case measure => omega
          case rel => exact ⟨k + 1, q, by omega, rfl, by go_num, hbel, HON.out, HNR.out, HQK.out⟩
    · have hkI : ¬ (k : Int) < (l.signs.length : Int) := by omega
      have HBW := Lib.hid (HB3.out.trans (HBK.out.mono HB3.out.size))
      go_wp2_with fail
      refine (HWK.out _ HBW.out).mono ?_
      rintro e wz ⟨rfl, hbz⟩
      have HBZ := Lib.hid (HBW.out.trans (hbz.mono HBW.out.size))
      clear hbz
      go_wp2_with fail
      go_ret
      exact ⟨rfl, HBZ.out⟩
end Go.Proofs.YtkmimjngmfdpmaaGreatDoor
