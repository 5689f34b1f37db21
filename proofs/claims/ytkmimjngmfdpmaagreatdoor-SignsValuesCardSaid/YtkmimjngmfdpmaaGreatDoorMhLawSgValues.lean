/- SignsValues: the law's walk. Made by gen_sglaw8.py. -/
import Derived.Test.YtkmimjngmfdpmaaGreatDoorMhSgAcc
import Derived.Test.YtkmimjngmfdpmaaGreatDoorMgSgSame
import Derived.Test.YtkmimjngmfdpmaaGreatDoorMgShelfF
import Derived.Test.YtkmimjngmfdpmaaGreatDoorMgSgWorks
namespace Go.Proofs.YtkmimjngmfdpmaaGreatDoor
open Go Go.RowKit
theorem r1SameValues_eq {B B' : Nat} (v v' : Value) (xs : List Sg.Value) (w : World) (hx : RdS w B 4 encValue v xs) (hy : RdS w B' 4 encValue v' xs) : Calls Tryz.prog 36 #[v, v'] w (RetBB true w) := by
  refine (r1SameValues_any v v' xs xs w hx hy).mono ?_
  rintro e w' ⟨q, rfl, hq, hb⟩
  have : q = true := hq.2 rfl
  subst this
  exact ⟨rfl, hb⟩
set_option maxRecDepth 100000 in
set_option maxHeartbeats 8000000 in
theorem SignsValues_any (v : Value) (l : Sg.SList) (sg per : Int) (w : World) (hr : RdSL w w.heap.size v l) (hg : Glob w) (ht : GTab w) : Calls Tryz.prog 8 #[v, .int .i64 sg, .int .i64 per] w (RetBB true w) := by
  have HRL := Lib.hid fun (W : World) (hW : Below w.heap.size w W) => hr.on hW
  have HGT := Lib.hid fun (W : World) (hW : Below w.heap.size w W) => (⟨hg.below hW, ht.below hW⟩ : Glob W ∧ GTab W)
  have HWK := Lib.hid fun (W : World) (hW : Below w.heap.size w W) => works1_any W (hg.below hW) (ht.below hW)
  obtain ⟨⟨u, rfl, hgl⟩, hf⟩ := hr
  obtain ⟨A0, c0, rfl⟩ := hgl.form
  obtain ⟨W1, hW1⟩ : ∃ W1, W1 = w.alloc (.cells #[.int .i64 l.periods, .slice A0 l.signs.length c0] 24) := ⟨_, rfl⟩
  have hb1 : Below w.heap.size w W1 := by rw [hW1]; exact (Below.refl _ _).alloc (Nat.le_refl _) _
  have hX : W1.heap[w.heap.size]? = some (.cells #[.int .i64 l.periods, .slice A0 l.signs.length c0] 24 (0, 0)) := by rw [hW1]; exact heap_alloc_new _ _
  have hs1 : w.heap.size < W1.heap.size := (Array.getElem?_eq_some_iff.1 hX).1
  have CX : Hid (∀ W, Below W1.heap.size W1 W → W.cell? ⟨w.heap.size, 0, none⟩ = some (.int .i64 l.periods) ∧ W.cell? ⟨w.heap.size, 1, none⟩ = some (.slice A0 l.signs.length c0)) := Lib.hid fun W hW => by
    have p := (hW.block _ hs1).trans hX
    exact ⟨by simp [World.cell?, p], by simp [World.cell?, p]⟩
  obtain ⟨x0, x1⟩ := CX.out W1 (Below.refl _ _)
  have HB1 := Lib.hid hb1
  have HW1 := Lib.hid hW1
  have HBG := Lib.hid (l1Big_any _ l W1 (HRL.out W1 hb1))
  clear hgl hf hW1 hb1 hX hg ht
  cases hbig : Sg.bigV l
  case true =>
    rw [hbig] at HBG
    clear hbig
    go_enter Tryz.func8, Tryz.ntmps8
    go_upto_region 1 with fail
    rw [← HW1.out]
    go_wp2_with fail
    refine HBG.out.mono ?_
    rintro e w2 ⟨rfl, hb2⟩
    have HB2 := Lib.hid (HB1.out.trans (hb2.mono (by omega)))
    clear hb2
    go_wp2_with fail
    refine (HWK.out _ HB2.out).mono ?_
    rintro e w3 ⟨rfl, hb3⟩
    have HB3 := Lib.hid (HB2.out.trans (hb3.mono HB2.out.size))
    clear hb3
    go_wp2_with fail
    go_ret
    exact ⟨rfl, HB3.out⟩
  rw [hbig] at HBG
  have HSM := Lib.hid (Sg.big_small hbig).1
  clear hbig
  go_enter Tryz.func8, Tryz.ntmps8
  go_upto_region 1 with fail
  rw [← HW1.out]
  go_wp2_with fail
  refine HBG.out.mono ?_
  rintro e w2 ⟨rfl, hb2⟩
  have HB2 := Lib.hid (HB1.out.trans (hb2.mono (by omega)))
  have H2 := Lib.hid hb2
  clear hb2 x0 x1
  obtain ⟨x0, x1⟩ := CX.out w2 H2.out
  go_wp2_with fail
  refine (r1Copy_any _ l w2 (HRL.out w2 HB2.out) HSM.out).mono ?_
  rintro e w3 ⟨v3, rfl, hr3, hb3⟩
  have HR3 := Lib.hid hr3
  clear hr3
  have HB3 := Lib.hid (HB2.out.trans (hb3.mono HB2.out.size))
  have H3 := Lib.hid (H2.out.trans (hb3.mono H2.out.size))
  clear hb3 x0 x1
  obtain ⟨x0, x1⟩ := CX.out w3 H3.out
  go_wp2_with fail
  refine (gValues_any _ l sg per w3 HR3.out HSM.out.2).mono ?_
  rintro e w4 ⟨va, rfl, hra, hb4⟩
  have HRA := Lib.hid hra
  clear hra
  have HB4 := Lib.hid (HB3.out.trans (hb4.mono HB3.out.size))
  have H4 := Lib.hid (H3.out.trans (hb4.mono H3.out.size))
  clear hb4 x0 x1
  obtain ⟨x0, x1⟩ := CX.out w4 H4.out
  go_wp2_with fail
  refine (r1Values_any _ l sg per w4 (HRL.out w4 HB4.out) HSM.out.2).mono ?_
  rintro e w5 ⟨vb, rfl, hrb, hb5⟩
  have HRB := Lib.hid hrb
  have HRA5 := Lib.hid (HRA.out.below hb5)
  have HS45 := Lib.hid hb5.size
  clear hrb
  have HB5 := Lib.hid (HB4.out.trans (hb5.mono HB4.out.size))
  have H5 := Lib.hid (H4.out.trans (hb5.mono H4.out.size))
  clear hb5 x0 x1
  obtain ⟨x0, x1⟩ := CX.out w5 H5.out
  go_wp2_with fail
  refine (r1Copy_any _ l w5 (HRL.out w5 HB5.out) HSM.out).mono ?_
  rintro e w6 ⟨v6, rfl, hr6, hb6⟩
  have HR6 := Lib.hid hr6
  clear hr6
  have HF6 := Lib.hid hb6
  have HB6 := Lib.hid (HB5.out.trans (hb6.mono HB5.out.size))
  have H6 := Lib.hid (H5.out.trans (hb6.mono H5.out.size))
  clear hb6 x0 x1
  obtain ⟨x0, x1⟩ := CX.out w6 H6.out
  obtain ⟨⟨z1, z2, z3⟩, hz⟩ : ∃ q, q = Sg.sizeV l sg per := ⟨_, rfl⟩
  have HZ1 := Lib.hid (gSize_any _ l sg per w6 HR6.out)
  have HZ2 := Lib.hid fun (W : World) (hW : Below w.heap.size w W) => r1Size_any _ l sg per W (HRL.out W hW)
  rw [← hz] at HZ1 HZ2
  clear hz
  obtain ⟨ev, hev⟩ : ∃ q, q = Sg.valuesE l sg per := ⟨_, rfl⟩
  rw [← hev]
  clear hev
  go_wp2_with fail
  refine (HZ1.out).mono ?_
  rintro e w7 ⟨rfl, hb7⟩
  have HF7 := Lib.hid (HF6.out.trans (hb7.mono HF6.out.size))
  have HB7 := Lib.hid (HB6.out.trans (hb7.mono HB6.out.size))
  have H7 := Lib.hid (H6.out.trans (hb7.mono H6.out.size))
  clear hb7 x0 x1
  obtain ⟨x0, x1⟩ := CX.out w7 H7.out
  go_wp2_with fail
  refine (HZ2.out w7 HB7.out).mono ?_
  rintro e w8 ⟨rfl, hb8⟩
  have HF8 := Lib.hid (HF7.out.trans (hb8.mono HF7.out.size))
  have HB8 := Lib.hid (HB7.out.trans (hb8.mono HB7.out.size))
  have H8 := Lib.hid (H7.out.trans (hb8.mono H7.out.size))
  clear hb8 x0 x1
  obtain ⟨x0, x1⟩ := CX.out w8 H8.out
  have hs45 : w4.heap.size ≤ w5.heap.size := HS45.out
  have HC1 := Lib.hid fun (W : World) (hW : Below w8.heap.size w8 W) => r1SameValues_eq _ _ _ W (HRA5.out.below ((HF8.out.mono hs45).trans (hW.mono (by have := HF8.out.size; omega)))) (HRB.out.below (HF8.out.trans (hW.mono HF8.out.size)))
  clear hs45
  have HWK := Lib.hid fun (W : World) (hW : Below w8.heap.size w8 W) => HWK.out W (HB8.out.trans (hW.mono HB8.out.size))
  go_wp2_with fail
  refine (HC1.out w8 (Below.refl _ _)).mono ?_
  rintro e w9 ⟨rfl, hb9⟩
  have HB9 := Lib.hid (HB8.out.trans (hb9.mono HB8.out.size))
  have HK9 := Lib.hid (HWK.out w9 hb9)
  have hs9 := hb9.size
  clear hb9
  go_wp2_with fail
  refine HK9.out.mono ?_
  rintro e w10 ⟨rfl, hb10⟩
  have HB10 := Lib.hid (HB9.out.trans (hb10.mono HB9.out.size))
  clear hb10
  go_wp2_with fail
  go_ret
  exact ⟨rfl, HB10.out⟩
end Go.Proofs.YtkmimjngmfdpmaaGreatDoor
