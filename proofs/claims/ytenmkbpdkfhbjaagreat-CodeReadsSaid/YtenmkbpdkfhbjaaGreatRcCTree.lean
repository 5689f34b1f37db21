/- code's tree code: items are written. Made by gen_ctree.py. -/
import Derived.Test.YtenmkbpdkfhbjaaGreatRcCWrite
import Derived.Test.YtenmkbpdkfhbjaaGreatRcCdTreeP
namespace Go.Proofs.YtenmkbpdkfhbjaaGreat
open Go Go.RowKit

theorem repeat_mark (n : Nat) : Lib.repeatL [63] n = List.replicate n 63 := by
 induction n with
 | zero => rfl
 | succ n ih => rw [Lib.repeatL, ih]; rfl
def TwSays (L : Sg.SList) (vl : Value) (B b d : Nat) : Prop := ∀ (xs : List Cd.Item) (A : Option Addr) (c : Nat) (acc : List UInt8) (W : World),
 Lib.IsBuilder 124 5 B b (Lib.byteCells acc) W → B ≤ W.heap.size → RdSL W B vl L → RdH (KGd d) 114 W (okW b W) (.slice A xs.length c) xs → Cd.OkL L xs → acc.length + (Cd.utL (Cd.nameL L xs)).length ≤ 10000000 →
 Calls Tryz.prog 179 #[.agg #[], .pointer (some ⟨b, 0, none⟩), vl, .slice A xs.length c] W (RetWr B b (acc ++ Cd.utL (Cd.nameL L xs)) W)
set_option maxRecDepth 100000 in
set_option maxHeartbeats 32000000 in
theorem tw_step (L : Sg.SList) (vl : Value) (B b d : Nat) (hLc : ∀ s ∈ L.signs, s.code.size ≤ 100) (ih : ∀ e, d = e + 1 → TwSays L vl B b e) : TwSays L vl B b d := by
 intro xs A c acc W hb hB hl hk hok hlen
 have IH := Lib.hid ih
 have HL := Lib.hid hl
 have HB := Lib.hid hB
 have HK := Lib.hid hk
 have HOK := Lib.hid hok
 have HLEN := Lib.hid hlen
 have hbz := isB_lt hb
 have HIB0 := Lib.hid hb
 have hcap : xs.length ≤ c ∧ c ≤ 9223372036854775807 := by
  obtain ⟨A', c', hv, h1, h2, -⟩ := hk
  cases hv
  exact ⟨h1, h2⟩
 have HWB : Hid (∀ (q : UInt8) (l1 : List UInt8) (W1 : World), Lib.IsBuilder 124 5 B b (Lib.byteCells l1) W1 → l1.length + 1 ≤ 10000000 → B ≤ W1.heap.size → Calls Tryz.prog 181 #[.pointer (some ⟨b, 0, none⟩), .int .u8 q.toNat] W1 (RetWb B b (l1 ++ [q]) W1)) := Lib.hid fun q l1 W1 q1 q2 q3 => gWriteByte_any B b l1 q W1 q1 q2 q3
 have HW32 : Hid (∀ (l1 : List UInt8) (W1 : World), Lib.IsBuilder 124 5 B b (Lib.byteCells l1) W1 → l1.length + 1 ≤ 10000000 → B ≤ W1.heap.size → Calls Tryz.prog 181 #[.pointer (some ⟨b, 0, none⟩), .int .u8 32] W1 (RetWb B b (l1 ++ [32]) W1)) := Lib.hid fun l1 W1 q1 q2 q3 => HWB.out 32 l1 W1 q1 q2 q3
 have HW41 : Hid (∀ (l1 : List UInt8) (W1 : World), Lib.IsBuilder 124 5 B b (Lib.byteCells l1) W1 → l1.length + 1 ≤ 10000000 → B ≤ W1.heap.size → Calls Tryz.prog 181 #[.pointer (some ⟨b, 0, none⟩), .int .u8 41] W1 (RetWb B b (l1 ++ [41]) W1)) := Lib.hid fun l1 W1 q1 q2 q3 => HWB.out 41 l1 W1 q1 q2 q3
 obtain ⟨⟨us, rfl, hsg⟩, -⟩ := hl
 obtain ⟨As, cs, rfl, -⟩ := id hsg
 obtain ⟨Z, hZ⟩ : ∃ Z, Z = W.heap.size := ⟨_, rfl⟩
 have HZ := Lib.hid hZ
 rw [← hZ] at hbz
 have HRES : Hid (∀ W', Lib.IsBuilder 124 5 B b (Lib.byteCells (acc ++ Cd.utL (Cd.nameL L xs))) W' → Below B W W' → Side b W W' → RetWr B b (acc ++ Cd.utL (Cd.nameL L xs)) W (.returned (.tuple #[])) W') := Lib.hid fun W' q1 q2 q3 => ⟨rfl, q1, q2, q3⟩
 clear hsg hb hB hk hok hlen ih hZ HWB
 go_enter Tryz.func179, Tryz.ntmps179
 go_wp2_with fail
 rw [← HZ.out]
 obtain ⟨WL, hWL⟩ : ∃ WL, WL = (W.alloc (.cells #[] 97)).alloc (.cells #[.int .i64 L.periods, .slice As L.signs.length cs] 24) := ⟨_, rfl⟩
 rw [← hWL]
 have hbl : Below Z W WL := by rw [hWL, HZ.out]; exact ((Below.refl _ _).alloc (Nat.le_refl _) _).alloc (by simp) _
 have b1 : WL.heap[Z + 1]? = some (.cells #[.int .i64 L.periods, .slice As L.signs.length cs] 24 (0, 0)) := by rw [hWL, HZ.out]; exact heap_alloc2_new _ _ _
 have hszL : WL.heap.size = Z + 2 := by rw [hWL, HZ.out]; simp
 have HBL := Lib.hid hbl
 have HB1 := Lib.hid b1
 have HSZL := Lib.hid hszL
 clear hWL hbl b1 hszL
 go_loopg [12] xs.length (fun g i wr => ∃ k : Nat, k ≤ xs.length ∧ g = xs.length - k ∧ i = .int .i64 (k : Int) ∧ Lib.IsBuilder 124 5 B b (Lib.byteCells (acc ++ Cd.utL (Cd.nameL L (xs.take k)))) wr ∧ Below B W wr ∧ Side b WL wr)
 case atStart =>
  refine ⟨0, Nat.zero_le _, rfl, rfl, ?_, HBL.out.mono (by rw [HZ.out]; exact HB.out), Side.refl _ _⟩
  rw [List.take_zero, Cd.name_nil, Cd.ut_nil, List.append_nil]
  exact isB_below HIB0.out (by rw [← HZ.out]; exact HBL.out)
 case round =>
  obtain ⟨k, hk, rfl, rfl, hib, hbr, hsd⟩ := hrel
  have HIB := Lib.hid hib
  have HBR := Lib.hid hbr
  have HSD := Lib.hid hsd
  have HSW := Lib.hid ((Side.of (b := b) (by rw [← HZ.out]; exact HBL.out)).trans hsd)
  have hzr : Z + 2 ≤ wr.heap.size := by have := hsd.1; have := HSZL.out; omega
  clear hib hbr hsd
  by_cases hlt : k < xs.length
  ·obtain ⟨x, hx⟩ : ∃ x, xs[k]? = some x := ⟨_, List.getElem?_eq_getElem hlt⟩
   obtain ⟨e, bi, cur, A', c', hde, hA, hokb, hcur, hkids, hcs⟩ := (its_side HK.out HSW.out).one_atG hx
   subst hA
   have hne : bi ≠ b := hokb.1
   have k0 : cur[k * 11]? = some (.int .i64 x.node.kind) := by have := hcs 0 _ rfl; simpa using this
   have f0 := (in_box hcur (k * 11)).1.trans k0
   have f1 := (in_box hcur (k * 11 + 1)).1.trans (hcs 1 _ rfl)
   have f2 := (in_box hcur (k * 11 + 2)).1.trans (hcs 2 _ rfl)
   have f3 := (in_box hcur (k * 11 + 3)).1.trans (hcs 3 _ rfl)
   have f4 := (in_box hcur (k * 11 + 4)).1.trans (hcs 4 _ rfl)
   have f5 := (in_box hcur (k * 11 + 5)).1.trans (hcs 5 _ rfl)
   have f6 := (in_box hcur (k * 11 + 6)).1.trans (hcs 6 _ rfl)
   have f7 := (in_box hcur (k * 11 + 7)).1.trans (hcs 7 _ rfl)
   have f8 := (in_box hcur (k * 11 + 8)).1.trans (hcs 8 _ rfl)
   have f9 := (in_box hcur (k * 11 + 9)).1.trans (hcs 9 _ rfl)
   have f10 := (in_box hcur (k * 11 + 10)).1.trans (hcs 10 _ rfl)
   have HKIDS := Lib.hid hkids
   have hI0 : (0 : Int) ≤ (k : Int) := by omega
   have hI1 : (k : Int) < (xs.length : Int) := by omega
   obtain ⟨n, cd, p, ks⟩ := x
   simp only [Cd.Item.node, Cd.Item.code, Cd.Item.pos, Cd.Item.kids] at f0 f1 f2 f3 f4 f5 f6 f7 f8 f9 f10 HKIDS
   have HU : Hid (Cd.utL (Cd.nameL L (xs.take (k + 1))) = Cd.utL (Cd.nameL L (xs.take k)) ++ ((if 0 < k then [32] else []) ++ Cd.utI (Cd.nameI L (.mk n cd p ks)))) := Lib.hid (Cd.ut_snoc hx)
   have HLK : Hid ((Cd.utL (Cd.nameL L (xs.take (k + 1)))).length ≤ (Cd.utL (Cd.nameL L xs)).length) := Lib.hid (Cd.ut_take_len L xs (k + 1))
   have hoks := Cd.ok_node (Cd.ok_at HOK.out hx)
   have HOKS := Lib.hid hoks.2
   obtain ⟨⟨hk1, hk7⟩, hn1, hn6⟩ := hoks.1
   simp only [Cd.Item.node] at hk1 hk7 hn1 hn6
   have HN1 := Lib.hid hn1
   have HN6 := Lib.hid hn6
   have HIX := Lib.hid (IH.out e hde)
   obtain ⟨F, hF⟩ : ∃ F, F = Cd.utL (Cd.nameL L (xs.take k)) := ⟨_, rfl⟩
   obtain ⟨X, hX⟩ : ∃ X, X = Cd.utI (Cd.nameI L (.mk n cd p ks)) := ⟨_, rfl⟩
   rw [← hF] at HU HIB
   rw [← hX] at HU
   have HX := Lib.hid hX
   obtain ⟨sp, hsp⟩ : ∃ sp : List UInt8, sp = if 0 < k then [32] else [] := ⟨_, rfl⟩
   rw [← hsp] at HU
   have hlx : acc.length + (F.length + (sp.length + X.length)) ≤ 10000000 := by
    have h1 := HLK.out
    have h2 := HLEN.out
    rw [HU.out, List.length_append, List.length_append] at h1
    omega
   have HLX := Lib.hid hlx
   have HSP := Lib.hid hsp
   have HKK : Hid (n.kind = 1 ∨ n.kind = 6 ∨ (n.kind = 2 ∨ n.kind = 3 ∨ n.kind = 4 ∨ n.kind = 5 ∨ n.kind = 7)) := Lib.hid (by omega)
   clear hx hcs hkids hokb hF hX hlx k0 hsp hoks hk1 hk7 hn1 hn6
   go_upto_region 4 with fail
   obtain ⟨W4, hW4⟩ : ∃ Y, Y = wr.alloc (.cells #[.int .i64 n.kind, .int .i64 n.depth, .int .i64 n.sign, .int .i64 n.turn, .bool n.mirror, .int .i64 n.state, .int .i64 n.lo, .int .i64 n.hi, .string (Cd.bs cd), .int .i64 p, .slice A' ks.length c'] 114) := ⟨_, rfl⟩
   rw [← hW4]
   have hb4 : Below wr.heap.size wr W4 := by rw [hW4]; exact (Below.refl _ _).alloc (Nat.le_refl _) _
   have hz4 : W4.heap[wr.heap.size]? = some (.cells #[.int .i64 n.kind, .int .i64 n.depth, .int .i64 n.sign, .int .i64 n.turn, .bool n.mirror, .int .i64 n.state, .int .i64 n.lo, .int .i64 n.hi, .string (Cd.bs cd), .int .i64 p, .slice A' ks.length c'] 114 (0, 0)) := by rw [hW4]; exact heap_alloc_new _ _
   have HB4 := Lib.hid hb4
   have HZ4 := Lib.hid hz4
   have HSD4 := Lib.hid (Side.of (b := b) hb4)
   have HI4 := Lib.hid (isB_below HIB.out hb4)
   have HBW4 := Lib.hid (HBR.out.trans (hb4.mono (Nat.le_trans HB.out HSW.out.1)))
   have b41 := (hb4.block (Z + 1) (by omega)).trans (HSD.out.2 (Z + 1) _ _ _ (by omega) (by decide) HB1.out)
   have HB41 := Lib.hid b41
   clear hW4 hb4 hz4 b41 f0 f1 f2 f3 f4 f5 f6 f7 f8 f9 f10
   obtain ⟨Y, hY⟩ : ∃ Y, Y = wr.heap.size := ⟨_, rfl⟩
   rw [← hY] at HZ4
   have hyb : b < Y := by omega
   have HY := Lib.hid hY
   rw [← hY]
   clear hY
   by_cases h0 : 0 < k
   ·have h0I : (0 : Int) < (k : Int) := by omega
    have HSP2 : Hid (sp = [32]) := Lib.hid (by rw [HSP.out, if_pos h0])
    have hlx : acc.length + (F.length + (1 + X.length)) ≤ 10000000 := by have := HLX.out; rw [HSP2.out] at this; exact this
    have HU2 : Hid (Cd.utL (Cd.nameL L (xs.take (k + 1))) = F ++ ([32] ++ X)) := Lib.hid (by rw [HU.out, HSP2.out])
    clear h0
    go_wp2_with fail
    refine (HW32.out _ W4 HI4.out (by rw [List.length_append]; omega) (Nat.le_trans HB.out HBW4.out.size)).mono ?_
    rintro e w5 ⟨rfl, hi5, hb5, hs5⟩
    obtain ⟨G, hG⟩ : ∃ G, G = acc ++ F ++ [32] := ⟨_, rfl⟩
    rw [← hG] at hi5
    have HI5 := Lib.hid hi5
    have HB5 := Lib.hid (HBW4.out.trans hb5)
    have HS5 := Lib.hid (HSD4.out.trans hs5)
    have c1 := hs5.2 (Z + 1) _ _ _ (by omega) (by decide) HB41.out
    have c2 := hs5.2 Y _ _ _ (by omega) (by decide) HZ4.out
    have HC1 := Lib.hid c1
    have HC2 := Lib.hid c2
    have hlg : G.length + X.length ≤ 10000000 := by rw [hG]; simp only [List.length_append, List.length_singleton]; omega
    have HUG : Hid (acc ++ Cd.utL (Cd.nameL L (xs.take (k + 1))) = G ++ X) := Lib.hid (by rw [HU2.out, hG]; simp)
    clear hi5 hb5 hs5 c1 c2 hG hlx
    obtain ⟨x0, x1⟩ := box2_cells HC1.out
    rcases HKK.out with hk1 | hk6 | hkk
    ·have HXX : Hid (X = Cd.leafU false n (Cd.codeAt L n.sign)) := Lib.hid (by rw [HX.out, Cd.nameI, Cd.ut_mk, if_pos hk1])
     have HCALL : Hid (Calls Tryz.prog 156 #[.agg #[.int .i64 L.periods, .slice As L.signs.length cs], .agg #[.int .i64 1, .int .i64 n.depth, .int .i64 n.sign, .int .i64 n.turn, .bool n.mirror, .int .i64 n.state, .int .i64 n.lo, .int .i64 n.hi]] w5 (RetSt X w5)) := Lib.hid (by
      have hn := HN1.out hk1
      have := cglyph_any L n _ w5 (HL.out.keep (Nat.le_trans HB.out HB5.out.size) HB5.out) ⟨hn.1, hn.2.1⟩ ⟨hn.2.2.1, hn.2.2.2.1⟩ hLc
      unfold encN encNz at this
      rw [hk1, ← HXX.out] at this
      exact this)
     rw [hk1] at HC2
     obtain ⟨z0, z1, z2, z3, z4, z5, z6, z7, z8, z9, z10⟩ := box_cells HC2.out
     clear hk1 HKK HN1 HN6 HXX HX
     go_wp2_with fail
     refine HCALL.out.mono ?_
     rintro e w6 ⟨rfl, hb6⟩
     have HI6 := Lib.hid (isB_below HI5.out hb6)
     have HB6 := Lib.hid (HB5.out.trans (hb6.mono (Nat.le_trans HB.out HB5.out.size)))
     have HS6 := Lib.hid (HS5.out.trans (Side.of (b := b) hb6))
     clear hb6 HCALL x0 x1 z0 z1 z2 z3 z4 z5 z6 z7 z8 z9 z10
     go_wp2_with fail
     refine (gWrite_any B b _ (Cd.bs X) w6 HI6.out hlg (Nat.le_trans HB.out HB6.out.size)).mono ?_
     rintro e w7 ⟨rfl, hi7, hb7, hs7⟩
     have HI7 := Lib.hid hi7
     have HB7 := Lib.hid (HB6.out.trans hb7)
     have HS7 := Lib.hid (HS6.out.trans hs7)
     clear hi7 hb7 hs7
     go_wp2_with fail
     go_roundg (xs.length - (k + 1))
     case measure => omega
     case rel =>
      refine ⟨k + 1, by omega, rfl, by go_num, ?_, HB7.out, HSD.out.trans HS7.out⟩
      rw [HUG.out]
      exact HI7.out
    ·have hn := HN6.out hk6
     obtain ⟨m, hm⟩ := Int.eq_ofNat_of_zero_le hn.2.2.1
     have HXX : Hid (X = List.replicate m 63) := Lib.hid (by rw [HX.out, Cd.nameI, Cd.ut_mk, hk6, if_neg (by decide), if_pos rfl, hm]; rfl)
     have HCALL : Hid (Calls Tryz.prog 182 #[.string ⟨#[63]⟩, .int .i64 (m : Int)] w5 (RetSt X w5)) := Lib.hid (by
      refine (Tryz.strings_Repeat ⟨#[63]⟩ m w5 (by omega) (by rw [show (⟨#[63]⟩ : ByteArray).size = 1 from rfl]; omega)).mono ?_
      rintro e w' ⟨rfl, hbq⟩
      exact ⟨by rw [HXX.out, ← repeat_mark]; rfl, hbq⟩)
     rw [hk6, hm] at HC2
     obtain ⟨z0, z1, z2, z3, z4, z5, z6, z7, z8, z9, z10⟩ := box_cells HC2.out
     clear hk6 hm hn HKK HN1 HN6 HXX HX
     go_wp2_with fail
     refine HCALL.out.mono ?_
     rintro e w6 ⟨rfl, hb6⟩
     have HI6 := Lib.hid (isB_below HI5.out hb6)
     have HB6 := Lib.hid (HB5.out.trans (hb6.mono (Nat.le_trans HB.out HB5.out.size)))
     have HS6 := Lib.hid (HS5.out.trans (Side.of (b := b) hb6))
     clear hb6 HCALL x0 x1 z0 z1 z2 z3 z4 z5 z6 z7 z8 z9 z10
     go_wp2_with fail
     refine (gWrite_any B b _ (Cd.bs X) w6 HI6.out hlg (Nat.le_trans HB.out HB6.out.size)).mono ?_
     rintro e w7 ⟨rfl, hi7, hb7, hs7⟩
     have HI7 := Lib.hid hi7
     have HB7 := Lib.hid (HB6.out.trans hb7)
     have HS7 := Lib.hid (HS6.out.trans hs7)
     clear hi7 hb7 hs7
     go_wp2_with fail
     go_roundg (xs.length - (k + 1))
     case measure => omega
     case rel =>
      refine ⟨k + 1, by omega, rfl, by go_num, ?_, HB7.out, HSD.out.trans HS7.out⟩
      rw [HUG.out]
      exact HI7.out
    ·have q1 : (n.kind == 1) = false := by simp; omega
     have q6 : (n.kind == 6) = false := by simp; omega
     obtain ⟨wd, hwd⟩ : ∃ wd, wd = Cd.wordOf n.kind := ⟨_, rfl⟩
     obtain ⟨V, hV⟩ : ∃ V, V = Cd.utL (Cd.nameL L ks) := ⟨_, rfl⟩
     have HXX : Hid (X = 40 :: (wd ++ 32 :: (V ++ [41]))) := Lib.hid (by rw [HX.out, Cd.nameI, Cd.ut_mk, if_neg (by omega), if_neg (by omega), hwd, hV])
     have hwl : wd.length ≤ 6 := by rw [hwd]; exact Cd.wordOf_len _
     have HWD : Hid (∀ W1 : World, Calls Tryz.prog 183 #[.int .i64 n.kind] W1 (fun e w' => e = .returned (.string (Cd.bs wd)) ∧ w' = W1)) := Lib.hid fun W1 => by
      have := word_any n.kind W1
      unfold RetWd wordS at this
      rw [if_pos hkk, ← hwd] at this
      exact this
     have HCALL : Hid (∀ (W1 : World) (l1 : List UInt8), Lib.IsBuilder 124 5 B b (Lib.byteCells l1) W1 → Below B W W1 → Side b wr W1 → l1.length + V.length ≤ 10000000 → Calls Tryz.prog 179 #[.agg #[], .pointer (some ⟨b, 0, none⟩), .agg #[.int .i64 L.periods, .slice As L.signs.length cs], .slice A' ks.length c'] W1 (RetWr B b (l1 ++ V) W1)) := Lib.hid fun W1 l1 q1 q2 q3 q4 => by
      rw [hV] at q4 ⊢
      exact HIX.out ks A' c' l1 W1 q1 (Nat.le_trans HB.out q2.size) (HL.out.keep (Nat.le_refl _) q2) (its_side HKIDS.out q3) HOKS.out q4
     have hlv : G.length + (wd.length + V.length + 3) ≤ 10000000 := by
      rw [HXX.out] at hlg
      simp only [List.length_append, List.length_cons, List.length_nil] at hlg
      omega
     have hws : (Cd.bs wd).size ≤ 6 := hwl
     obtain ⟨z0, z1, z2, z3, z4, z5, z6, z7, z8, z9, z10⟩ := box_cells HC2.out
     clear hkk HKK HN1 HN6 HX hwd hV
     go_wp2_with fail
     refine (HWD.out w5).mono ?_
     rintro e w5' ⟨rfl, rfl⟩
     go_wp2_with fail
     refine (gWrite_any B b G _ _ HI5.out ?_ (Nat.le_trans HB.out HB5.out.size)).mono ?_
     ·rw [ByteArray.size_append, ByteArray.size_append]
      have e1 : (⟨#[40]⟩ : ByteArray).size = 1 := rfl
      have e2 : (⟨#[32]⟩ : ByteArray).size = 1 := rfl
      have e3 : (Cd.bs wd).size = wd.length := rfl
      omega
     rintro e w6 ⟨rfl, hi6, hb6, hs6⟩
     obtain ⟨H, hH⟩ : ∃ H, H = G ++ (40 :: (wd ++ [32])) := ⟨_, rfl⟩
     have HI6 : Hid (Lib.IsBuilder 124 5 B b (Lib.byteCells H) w6) := Lib.hid (by rw [hH]; simpa [Cd.bs] using hi6)
     have hlh : H.length = G.length + (wd.length + 2) := by rw [hH]; simp
     have HUH : Hid (acc ++ Cd.utL (Cd.nameL L (xs.take (k + 1))) = H ++ V ++ [41]) := Lib.hid (by rw [HUG.out, HXX.out, hH]; simp)
     have hlh2 : H.length + V.length + 1 ≤ 10000000 := by omega
     have HLH := Lib.hid hlh2
     have HB6 := Lib.hid (HB5.out.trans hb6)
     have HS6 := Lib.hid (HS5.out.trans hs6)
     have d1 := hs6.2 (Z + 1) _ _ _ (by omega) (by decide) HC1.out
     have d2 := hs6.2 Y _ _ _ (by omega) (by decide) HC2.out
     clear x0 x1 z0 z1 z2 z3 z4 z5 z6 z7 z8 z9 z10
     obtain ⟨x0, x1⟩ := box2_cells d1
     obtain ⟨z0, z1, z2, z3, z4, z5, z6, z7, z8, z9, z10⟩ := box_cells d2
     clear hi6 hb6 hs6 d1 d2 hH hlh hlh2 hlv hlg
     go_wp2_with fail
     refine (HCALL.out w6 _ HI6.out HB6.out HS6.out (by have := HLH.out; omega)).mono ?_
     rintro e w7 ⟨rfl, hi7, hb7, hs7⟩
     have HI7 := Lib.hid hi7
     have HB7 := Lib.hid (HB6.out.trans hb7)
     have HS7 := Lib.hid (HS6.out.trans hs7)
     clear hi7 hb7 hs7 x0 x1 z0 z1 z2 z3 z4 z5 z6 z7 z8 z9 z10
     go_wp2_with fail
     refine (HW41.out _ w7 HI7.out (by have := HLH.out; rw [List.length_append]; omega) (Nat.le_trans HB.out HB7.out.size)).mono ?_
     rintro e w8 ⟨rfl, hi8, hb8, hs8⟩
     have HI8 := Lib.hid hi8
     have HB8 := Lib.hid (HB7.out.trans hb8)
     have HS8 := Lib.hid (HS7.out.trans hs8)
     clear hi8 hb8 hs8
     go_wp2_with fail
     go_roundg (xs.length - (k + 1))
     case measure => omega
     case rel =>
      refine ⟨k + 1, by omega, rfl, by go_num, ?_, HB8.out, HSD.out.trans HS8.out⟩
      rw [HUH.out]
      exact HI8.out
   ·have h0I : ¬ (0 : Int) < (k : Int) := by omega
    have HSP2 : Hid (sp = []) := Lib.hid (by rw [HSP.out, if_neg h0])
    have hlx : acc.length + (F.length + X.length) ≤ 10000000 := by have := HLX.out; rw [HSP2.out, List.length_nil] at this; omega
    have HU2 : Hid (Cd.utL (Cd.nameL L (xs.take (k + 1))) = F ++ X) := Lib.hid (by rw [HU.out, HSP2.out]; rfl)
    clear h0
    obtain ⟨w5, hw5⟩ : ∃ w5, w5 = W4 := ⟨_, rfl⟩
    rw [← hw5] at HI4 HBW4 HSD4 HB41 HZ4 ⊢
    obtain ⟨G, hG⟩ : ∃ G, G = acc ++ F := ⟨_, rfl⟩
    rw [← hG] at HI4
    have HI5 := HI4
    have HB5 := HBW4
    have HS5 := HSD4
    have HC1 := HB41
    have HC2 := HZ4
    have hlg : G.length + X.length ≤ 10000000 := by rw [hG]; simp only [List.length_append]; omega
    have HUG : Hid (acc ++ Cd.utL (Cd.nameL L (xs.take (k + 1))) = G ++ X) := Lib.hid (by rw [HU2.out, hG]; simp)
    clear hG hlx hw5
    obtain ⟨x0, x1⟩ := box2_cells HC1.out
    rcases HKK.out with hk1 | hk6 | hkk
    ·have HXX : Hid (X = Cd.leafU false n (Cd.codeAt L n.sign)) := Lib.hid (by rw [HX.out, Cd.nameI, Cd.ut_mk, if_pos hk1])
     have HCALL : Hid (Calls Tryz.prog 156 #[.agg #[.int .i64 L.periods, .slice As L.signs.length cs], .agg #[.int .i64 1, .int .i64 n.depth, .int .i64 n.sign, .int .i64 n.turn, .bool n.mirror, .int .i64 n.state, .int .i64 n.lo, .int .i64 n.hi]] w5 (RetSt X w5)) := Lib.hid (by
      have hn := HN1.out hk1
      have := cglyph_any L n _ w5 (HL.out.keep (Nat.le_trans HB.out HB5.out.size) HB5.out) ⟨hn.1, hn.2.1⟩ ⟨hn.2.2.1, hn.2.2.2.1⟩ hLc
      unfold encN encNz at this
      rw [hk1, ← HXX.out] at this
      exact this)
     rw [hk1] at HC2
     obtain ⟨z0, z1, z2, z3, z4, z5, z6, z7, z8, z9, z10⟩ := box_cells HC2.out
     clear hk1 HKK HN1 HN6 HXX HX
     go_wp2_with fail
     refine HCALL.out.mono ?_
     rintro e w6 ⟨rfl, hb6⟩
     have HI6 := Lib.hid (isB_below HI5.out hb6)
     have HB6 := Lib.hid (HB5.out.trans (hb6.mono (Nat.le_trans HB.out HB5.out.size)))
     have HS6 := Lib.hid (HS5.out.trans (Side.of (b := b) hb6))
     clear hb6 HCALL x0 x1 z0 z1 z2 z3 z4 z5 z6 z7 z8 z9 z10
     go_wp2_with fail
     refine (gWrite_any B b _ (Cd.bs X) w6 HI6.out hlg (Nat.le_trans HB.out HB6.out.size)).mono ?_
     rintro e w7 ⟨rfl, hi7, hb7, hs7⟩
     have HI7 := Lib.hid hi7
     have HB7 := Lib.hid (HB6.out.trans hb7)
     have HS7 := Lib.hid (HS6.out.trans hs7)
     clear hi7 hb7 hs7
     go_wp2_with fail
     go_roundg (xs.length - (k + 1))
     case measure => omega
     case rel =>
      refine ⟨k + 1, by omega, rfl, by go_num, ?_, HB7.out, HSD.out.trans HS7.out⟩
      rw [HUG.out]
      exact HI7.out
    ·have hn := HN6.out hk6
     obtain ⟨m, hm⟩ := Int.eq_ofNat_of_zero_le hn.2.2.1
     have HXX : Hid (X = List.replicate m 63) := Lib.hid (by rw [HX.out, Cd.nameI, Cd.ut_mk, hk6, if_neg (by decide), if_pos rfl, hm]; rfl)
     have HCALL : Hid (Calls Tryz.prog 182 #[.string ⟨#[63]⟩, .int .i64 (m : Int)] w5 (RetSt X w5)) := Lib.hid (by
      refine (Tryz.strings_Repeat ⟨#[63]⟩ m w5 (by omega) (by rw [show (⟨#[63]⟩ : ByteArray).size = 1 from rfl]; omega)).mono ?_
      rintro e w' ⟨rfl, hbq⟩
      exact ⟨by rw [HXX.out, ← repeat_mark]; rfl, hbq⟩)
     rw [hk6, hm] at HC2
     obtain ⟨z0, z1, z2, z3, z4, z5, z6, z7, z8, z9, z10⟩ := box_cells HC2.out
     clear hk6 hm hn HKK HN1 HN6 HXX HX
     go_wp2_with fail
     refine HCALL.out.mono ?_
     rintro e w6 ⟨rfl, hb6⟩
     have HI6 := Lib.hid (isB_below HI5.out hb6)
     have HB6 := Lib.hid (HB5.out.trans (hb6.mono (Nat.le_trans HB.out HB5.out.size)))
     have HS6 := Lib.hid (HS5.out.trans (Side.of (b := b) hb6))
     clear hb6 HCALL x0 x1 z0 z1 z2 z3 z4 z5 z6 z7 z8 z9 z10
     go_wp2_with fail
     refine (gWrite_any B b _ (Cd.bs X) w6 HI6.out hlg (Nat.le_trans HB.out HB6.out.size)).mono ?_
     rintro e w7 ⟨rfl, hi7, hb7, hs7⟩
     have HI7 := Lib.hid hi7
     have HB7 := Lib.hid (HB6.out.trans hb7)
     have HS7 := Lib.hid (HS6.out.trans hs7)
     clear hi7 hb7 hs7
     go_wp2_with fail
     go_roundg (xs.length - (k + 1))
     case measure => omega
     case rel =>
      refine ⟨k + 1, by omega, rfl, by go_num, ?_, HB7.out, HSD.out.trans HS7.out⟩
      rw [HUG.out]
      exact HI7.out
    ·have q1 : (n.kind == 1) = false := by simp; omega
     have q6 : (n.kind == 6) = false := by simp; omega
     obtain ⟨wd, hwd⟩ : ∃ wd, wd = Cd.wordOf n.kind := ⟨_, rfl⟩
     obtain ⟨V, hV⟩ : ∃ V, V = Cd.utL (Cd.nameL L ks) := ⟨_, rfl⟩
     have HXX : Hid (X = 40 :: (wd ++ 32 :: (V ++ [41]))) := Lib.hid (by rw [HX.out, Cd.nameI, Cd.ut_mk, if_neg (by omega), if_neg (by omega), hwd, hV])
     have hwl : wd.length ≤ 6 := by rw [hwd]; exact Cd.wordOf_len _
     have HWD : Hid (∀ W1 : World, Calls Tryz.prog 183 #[.int .i64 n.kind] W1 (fun e w' => e = .returned (.string (Cd.bs wd)) ∧ w' = W1)) := Lib.hid fun W1 => by
      have := word_any n.kind W1
      unfold RetWd wordS at this
      rw [if_pos hkk, ← hwd] at this
      exact this
     have HCALL : Hid (∀ (W1 : World) (l1 : List UInt8), Lib.IsBuilder 124 5 B b (Lib.byteCells l1) W1 → Below B W W1 → Side b wr W1 → l1.length + V.length ≤ 10000000 → Calls Tryz.prog 179 #[.agg #[], .pointer (some ⟨b, 0, none⟩), .agg #[.int .i64 L.periods, .slice As L.signs.length cs], .slice A' ks.length c'] W1 (RetWr B b (l1 ++ V) W1)) := Lib.hid fun W1 l1 q1 q2 q3 q4 => by
      rw [hV] at q4 ⊢
      exact HIX.out ks A' c' l1 W1 q1 (Nat.le_trans HB.out q2.size) (HL.out.keep (Nat.le_refl _) q2) (its_side HKIDS.out q3) HOKS.out q4
     have hlv : G.length + (wd.length + V.length + 3) ≤ 10000000 := by
      rw [HXX.out] at hlg
      simp only [List.length_append, List.length_cons, List.length_nil] at hlg
      omega
     have hws : (Cd.bs wd).size ≤ 6 := hwl
     obtain ⟨z0, z1, z2, z3, z4, z5, z6, z7, z8, z9, z10⟩ := box_cells HC2.out
     clear hkk HKK HN1 HN6 HX hwd hV
     go_wp2_with fail
     refine (HWD.out w5).mono ?_
     rintro e w5' ⟨rfl, rfl⟩
     go_wp2_with fail
     refine (gWrite_any B b G _ _ HI5.out ?_ (Nat.le_trans HB.out HB5.out.size)).mono ?_
     ·rw [ByteArray.size_append, ByteArray.size_append]
      have e1 : (⟨#[40]⟩ : ByteArray).size = 1 := rfl
      have e2 : (⟨#[32]⟩ : ByteArray).size = 1 := rfl
      have e3 : (Cd.bs wd).size = wd.length := rfl
      omega
     rintro e w6 ⟨rfl, hi6, hb6, hs6⟩
     obtain ⟨H, hH⟩ : ∃ H, H = G ++ (40 :: (wd ++ [32])) := ⟨_, rfl⟩
     have HI6 : Hid (Lib.IsBuilder 124 5 B b (Lib.byteCells H) w6) := Lib.hid (by rw [hH]; simpa [Cd.bs] using hi6)
     have hlh : H.length = G.length + (wd.length + 2) := by rw [hH]; simp
     have HUH : Hid (acc ++ Cd.utL (Cd.nameL L (xs.take (k + 1))) = H ++ V ++ [41]) := Lib.hid (by rw [HUG.out, HXX.out, hH]; simp)
     have hlh2 : H.length + V.length + 1 ≤ 10000000 := by omega
     have HLH := Lib.hid hlh2
     have HB6 := Lib.hid (HB5.out.trans hb6)
     have HS6 := Lib.hid (HS5.out.trans hs6)
     have d1 := hs6.2 (Z + 1) _ _ _ (by omega) (by decide) HC1.out
     have d2 := hs6.2 Y _ _ _ (by omega) (by decide) HC2.out
     clear x0 x1 z0 z1 z2 z3 z4 z5 z6 z7 z8 z9 z10
     obtain ⟨x0, x1⟩ := box2_cells d1
     obtain ⟨z0, z1, z2, z3, z4, z5, z6, z7, z8, z9, z10⟩ := box_cells d2
     clear hi6 hb6 hs6 d1 d2 hH hlh hlh2 hlv hlg
     go_wp2_with fail
     refine (HCALL.out w6 _ HI6.out HB6.out HS6.out (by have := HLH.out; omega)).mono ?_
     rintro e w7 ⟨rfl, hi7, hb7, hs7⟩
     have HI7 := Lib.hid hi7
     have HB7 := Lib.hid (HB6.out.trans hb7)
     have HS7 := Lib.hid (HS6.out.trans hs7)
     clear hi7 hb7 hs7 x0 x1 z0 z1 z2 z3 z4 z5 z6 z7 z8 z9 z10
     go_wp2_with fail
     refine (HW41.out _ w7 HI7.out (by have := HLH.out; rw [List.length_append]; omega) (Nat.le_trans HB.out HB7.out.size)).mono ?_
     rintro e w8 ⟨rfl, hi8, hb8, hs8⟩
     have HI8 := Lib.hid hi8
     have HB8 := Lib.hid (HB7.out.trans hb8)
     have HS8 := Lib.hid (HS7.out.trans hs8)
     clear hi8 hb8 hs8
     go_wp2_with fail
     go_roundg (xs.length - (k + 1))
     case measure => omega
     case rel =>
      refine ⟨k + 1, by omega, rfl, by go_num, ?_, HB8.out, HSD.out.trans HS8.out⟩
      rw [HUH.out]
      exact HI8.out
  ·have hltI : ¬ (k : Int) < (xs.length : Int) := by omega
   have hkx : xs.take k = xs := List.take_of_length_le (by omega)
   have HIX : Hid (Lib.IsBuilder 124 5 B b (Lib.byteCells (acc ++ Cd.utL (Cd.nameL L xs))) wr) := Lib.hid (by have := HIB.out; rwa [hkx] at this)
   clear hkx
   go_wp2_with fail
   go_end0
   exact HRES.out _ HIX.out HBR.out HSW.out
theorem tw_any (L : Sg.SList) (vl : Value) (B b : Nat) (hLc : ∀ s ∈ L.signs, s.code.size ≤ 100) : ∀ d, TwSays L vl B b d
 | 0 => tw_step L vl B b 0 hLc fun e h => by omega
 | d + 1 => tw_step L vl B b (d + 1) hLc fun e h => by
  have : e = d := by omega
  subst this
  exact tw_any L vl B b hLc e
end Go.Proofs.YtenmkbpdkfhbjaaGreat
