/- ostraconref05.Cuts: the good case. Made by gen_rcuts.py. -/
import Derived.Test.YtpmfjndbckblfaaDoorMgRCutsM
import Derived.Test.YtpmfjndbckblfaaDoorMgRegion4
import Derived.Test.YtpmfjndbckblfaaDoorMgWithFits
namespace Go.Proofs.YtpmfjndbckblfaaDoor
open Go.RowKit

structure RcaR (T0 : Array Value) (W0 : World) (xv : Value) (bx i tp : Nat) (s : ByteArray) (L : List Lx.Form) (d : Array Bool) (t : Array Value) (wc : World) : Prop where
  bel : Below W0.heap.size W0 wc
  siz : t.size = 129
  kp : ∀ i, i ∉ ([12, 65, 66, 67, 68, 69, 70] : List Nat) → t[i]? = T0[i]?
  k1 : t[1]? = some (.string s)
  k3 : t[3]? = some (.pointer (some ⟨bx, 0, none⟩))
  k10 : t[10]? = some (.int .i64 (i : Int))
  k11 : t[11]? = some (.int .i64 (tp : Int))
  p0 : dn d 0 → t[65]? = some (xv)
  p1 : dn d 1 → t[66]? = some (.string s)
  p2 : dn d 2 → t[67]? = some (.int .i64 (i : Int))
  p3 : dn d 3 → t[68]? = some (.int .i64 (tp : Int))
  p4 : dn d 4 → t[69]? = some (.string (s.extract i tp))
  p5 : dn d 5 → ∃ v, t[70]? = some v ∧ RdG KForm wc (fun b => b < wc.heap.size ∧ W0.heap.size ≤ b) v L
  p6 : dn d 6 → ∃ v, t[12]? = some v ∧ RdG KForm wc (fun b => b < wc.heap.size ∧ W0.heap.size ≤ b) v L
def RcaI (T0 : Array Value) (W0 : World) (xv : Value) (bx i tp : Nat) (s : ByteArray) (L : List Lx.Form) (d : Array Bool) (a : Act) (wc : World) : Prop := ∃ t : Array Value, a = ⟨t, []⟩ ∧ RcaR T0 W0 xv bx i tp s L d t wc
structure RcbR (T0 : Array Value) (W0 : World) (xv : Value) (bx gt n b1 o1 nf cf q b2 o2 nl cu r tp nc cc : Nat) (Ac : Option Addr) (y0 : Int × Int × (Option Addr × Nat × Nat)) (ys : List (Int × Int × (Option Addr × Nat × Nat))) (hv wt : Int) (d : Array Bool) (t : Array Value) (wc : World) : Prop where
  bel : Below W0.heap.size W0 wc
  siz : t.size = 129
  kp : ∀ i, i ∉ ([15, 86, 87, 88, 89, 90, 91, 92, 93, 94, 95, 96, 97, 98, 99, 100, 101, 102, 103, 104, 105, 106, 107, 108, 109, 110, 111, 112, 113, 114, 115] : List Nat) → t[i]? = T0[i]?
  k3 : t[3]? = some (.pointer (some ⟨bx, 0, none⟩))
  k9 : t[9]? = some (.slice (some ⟨gt, 0, none⟩) (n + 1) (n + 1))
  k11 : t[11]? = some (.int .i64 (tp : Int))
  k12 : t[12]? = some (.slice (some ⟨b1, o1, none⟩) nf cf)
  k13 : t[13]? = some (.int .i64 (q : Int))
  k14 : t[14]? = some (.int .i64 (r : Int))
  p0 : dn d 0 → t[86]? = some (.slice (some ⟨b1, o1, none⟩) nf cf)
  p1 : dn d 1 → t[87]? = some (.int .i64 (q : Int))
  p2 : dn d 2 → t[88]? = some (.pointer (some ⟨b1, o1 + q * 3, none⟩))
  p3 : dn d 3 → t[89]? = some (.agg #[.int .i64 y0.1, .int .i64 y0.2.1, .slice y0.2.2.1 y0.2.2.2.1 y0.2.2.2.2])
  p5 : dn d 5 → t[91]? = some (.slice (some ⟨gt, 0, none⟩) (n + 1) (n + 1))
  p6 : dn d 6 → t[92]? = some (.int .i64 (tp : Int))
  p7 : dn d 7 → t[93]? = some (.pointer (some ⟨gt, tp, none⟩))
  p8 : dn d 8 → t[94]? = some (.slice (some ⟨b2, o2, none⟩) nl cu)
  p9 : dn d 9 → t[95]? = some (.int .i64 (r : Int))
  p10 : dn d 10 → t[96]? = some (.pointer (some ⟨b2, o2 + r * 2, none⟩))
  p11 : dn d 11 → t[97]? = some (.pointer (some ⟨b2, o2 + r * 2, none⟩))
  p12 : dn d 12 → t[98]? = some (.slice Ac nc cc)
  p14 : dn d 14 → t[100]? = some (xv)
  p15 : dn d 15 → t[101]? = some (.slice (some ⟨b1, o1, none⟩) nf cf)
  p16 : dn d 16 → t[102]? = some (.int .i64 (q : Int))
  p17 : dn d 17 → t[103]? = some (.pointer (some ⟨b1, o1 + q * 3, none⟩))
  p18 : dn d 18 → t[104]? = some (.agg #[.int .i64 y0.1, .int .i64 y0.2.1, .slice y0.2.2.1 y0.2.2.2.1 y0.2.2.2.2])
  p19 : dn d 19 → t[105]? = some (.int .i64 hv)
  p20 : dn d 20 → t[106]? = some (.slice (some ⟨gt, 0, none⟩) (n + 1) (n + 1))
  p21 : dn d 21 → t[107]? = some (.int .i64 (tp : Int))
  p22 : dn d 22 → t[108]? = some (.pointer (some ⟨gt, tp, none⟩))
  p23 : dn d 23 → t[109]? = some (.slice (some ⟨b2, o2, none⟩) nl cu)
  p24 : dn d 24 → t[110]? = some (.int .i64 (r : Int))
  p25 : dn d 25 → t[111]? = some (.pointer (some ⟨b2, o2 + r * 2, none⟩))
  p26 : dn d 26 → t[112]? = some (.pointer (some ⟨b2, o2 + r * 2 + 1, none⟩))
  p27 : dn d 27 → t[113]? = some (.int .i64 wt)
  p28 : dn d 28 → t[114]? = some (.int .i64 (hv + wt))
  q4 : dn d 4 → ¬ dn d 13 → ∃ v, t[90]? = some v ∧ wc.ownsRow W0.heap.size 29 3 v 1 (enc3 y0)
  q13 : dn d 13 → ∃ v, t[99]? = some v ∧ wc.ownsRow W0.heap.size 29 3 v (1 + nc) (enc3 y0 ++ ys.flatMap enc3) ∧ (dn d 29 → t[115]? = some (.agg #[v, .int .i64 (hv + wt)]))
  q30 : dn d 30 → ∃ g cur, t[15]? = some (.pointer (some ⟨g, 0, none⟩)) ∧ W0.heap.size ≤ g ∧ wc.heap[g]? = some (.cells cur 51 (0, 0)) ∧ cur.size = 2 ∧ (dn d 31 → ∃ v, t[99]? = some v ∧ cur = #[v, .int .i64 (hv + wt)])
  l29 : dn d 29 → dn d 13
  l31 : dn d 31 → dn d 30 ∧ dn d 29
def RcbI (T0 : Array Value) (W0 : World) (xv : Value) (bx gt n b1 o1 nf cf q b2 o2 nl cu r tp nc cc : Nat) (Ac : Option Addr) (y0 : Int × Int × (Option Addr × Nat × Nat)) (ys : List (Int × Int × (Option Addr × Nat × Nat))) (hv wt : Int) (d : Array Bool) (a : Act) (wc : World) : Prop := ∃ t : Array Value, a = ⟨t, []⟩ ∧ RcbR T0 W0 xv bx gt n b1 o1 nf cf q b2 o2 nl cu r tp nc cc Ac y0 ys hv wt d t wc
structure RccR (T0 : Array Value) (W0 : World) (Bs gt n S i gx most : Nat) (Q : Nat → Prop) (T : Nat → List Lx.Cut) (l' : List Lx.Cut) (vo f9 : Value) (wt9 : Int) (d : Array Bool) (t : Array Value) (wc : World) : Prop where
  bel : Below Bs W0 wc
  siz : t.size = 129
  kp : ∀ i, i ∉ ([116, 117, 118, 119, 120, 121, 122, 123, 124, 125] : List Nat) → t[i]? = T0[i]?
  k2 : t[2]? = some (.int .i64 (most : Int))
  k9 : t[9]? = some (.slice (some ⟨gt, 0, none⟩) (n + 1) (n + 1))
  k10 : t[10]? = some (.int .i64 (i : Int))
  k15 : t[15]? = some (.pointer (some ⟨gx, 0, none⟩))
  p0 : dn d 0 → t[116]? = some (.slice (some ⟨gt, 0, none⟩) (n + 1) (n + 1))
  p1 : dn d 1 → t[117]? = some (.int .i64 (i : Int))
  p2 : dn d 2 → t[118]? = some (.slice (some ⟨gt, 0, none⟩) (n + 1) (n + 1))
  p3 : dn d 3 → t[119]? = some (.int .i64 (i : Int))
  p4 : dn d 4 → t[120]? = some (.pointer (some ⟨gt, i, none⟩))
  p5 : dn d 5 → t[121]? = some (vo)
  p6 : dn d 6 → t[122]? = some (.agg #[f9, .int .i64 wt9])
  p7 : dn d 7 → t[123]? = some (.int .i64 (most : Int))
  p9 : dn d 9 → t[125]? = some (.pointer (some ⟨gt, i, none⟩))
  hp : ¬ dn d 8 → wc.heap = W0.heap
  q8 : dn d 8 → ¬ dn d 10 → ∃ v, t[124]? = some v ∧ PutP W0 wc gt vo v l'
  q10 : dn d 10 → TabC wc gt n S i Q T l' ∧ ∀ b, b < W0.heap.size → b ≠ gt → some b ≠ vo.ownBlock → wc.heap[b]? = W0.heap[b]?
  l8 : dn d 8 → dn d 5 ∧ dn d 6
  l10 : dn d 10 → dn d 8
def RccI (T0 : Array Value) (W0 : World) (Bs gt n S i gx most : Nat) (Q : Nat → Prop) (T : Nat → List Lx.Cut) (l' : List Lx.Cut) (vo f9 : Value) (wt9 : Int) (d : Array Bool) (a : Act) (wc : World) : Prop := ∃ t : Array Value, a = ⟨t, []⟩ ∧ RccR T0 W0 Bs gt n S i gx most Q T l' vo f9 wt9 d t wc

set_option maxRecDepth 100000 in
set_option maxHeartbeats 16000000 in
theorem rCuts_good (x : Lx.Lexicon) (s : ByteArray) (most : Nat) (vx : Value) (w : World) (hr : RdL w w.heap.size vx x) (hz : Lx.speechV x s = 0) (hm1 : 1 ≤ most) (hm2 : most ≤ 64) :
    Calls Tryd.prog 22 #[vx, .string s, .int .i64 (most : Int)] w (RetVI w (fun w' v => RdG KCut w' (fun b => b < w'.heap.size) v (Lx.rtabT x most (Lx.formsR x s) s.size s.size 0)) 0) := by
  obtain ⟨hchk, hsb⟩ := Lx.speech_parts hz
  obtain ⟨hs1, hs2, hal⟩ := Lx.sounds_size hsb
  have HSP : Hid (∀ (W : World), Below w.heap.size w W → Calls Tryd.prog 70 #[vx, .string s] W (RetIB (Lx.speechV x s) W)) := Lib.hid fun W hW => rspeech_any vx x s W ((hr.below hW).more hW.size) (by simp only [maxLen]; omega)
  have HRW0 : Hid (∀ (W : World) (i tp : Nat), tp ≤ s.size → Below w.heap.size w W → Calls Tryd.prog 71 #[vx, .string (s.extract i tp)] W (fun e w' => ∃ v, e = .returned v ∧ OwnG KForm 29 w' W.heap.size v (Lx.formsR x s i tp) ∧ Below W.heap.size W w')) :=
    Lib.hid fun W i tp ht hW => rwith_any x _ hchk (by simp [ByteArray.size_extract]; omega) vx W ((hr.below hW).more hW.size)
  have HZ := Lib.hid hz
  have HCL : Hid (∀ i tp, (Lx.formsR x s i tp).length ≤ 20000000) := Lib.hid fun i tp => by
    obtain ⟨ht0, ht1, ht2⟩ := Lx.tooMany_no (Lx.check_parts hchk).1
    have h1 := Lx.rwithN_len x (s.extract i tp).data.toList ht2 ht1 x.entries.length
    have h2 : x.entries.length * 54571 ≤ 200 * 54571 := Nat.mul_le_mul_right _ ht0
    exact Nat.le_trans h1 (by omega)
  have hff : ∀ i t f, f ∈ Lx.formsR x s i t → Lx.FitsC x f ∧ FSmall f := fun i t f hf => by
    have e : Lx.formsR x s i t = Lx.withV x (s.extract i t) := (Lx.with_rwith hchk).symm
    rw [e] at hf
    exact ⟨Lx.withV_fits2 hchk f hf, Lx.withV_small2 hchk f hf⟩
  have HFF := Lib.hid hff
  have HHV0 : Hid (∀ (W : World) (vf : Value) (f : Lx.Form), Below w.heap.size w W → Lx.FitsC x f → RdF W W.heap.size vf f → Calls Tryd.prog 35 #[vx, vf] W (RetIB (Lx.heavyV x f) W)) :=
    Lib.hid fun W vf f hW hf hrf => rHeavy_any _ _ x f W ((hr.below hW).more hW.size) hrf hchk hf
  have hwl : ∀ f, Lx.FitsC x f → 0 ≤ Lx.heavyV x f ∧ Lx.heavyV x f ≤ 5000 := fun f hf => Lx.heavyV_le hchk hf.few
  have HWL := Lib.hid hwl
  have HWT : Hid (∀ k j c, c ∈ Lx.rtabT x most (Lx.formsR x s) s.size k j → c.1.length ≤ k ∧ 0 ≤ c.2 ∧ c.2 ≤ 5000 * (k : Int)) := Lib.hid (Lx.rtab_more fun i t f hf => hwl f (hff i t f hf).1)
  have HFN : Hid (∀ k j, Lx.Fine most (Lx.AllQ FSmall) (Lx.rtabT x most (Lx.formsR x s) s.size k j)) := Lib.hid (Lx.rtab_fine hm1 fun i t f hf => (hff i t f hf).2)
  have HFC : Hid (∀ k b q f r, FSmall f → Lx.Fine most (Lx.AllQ FSmall) (Lx.lC x most (Lx.formsR x s) s.size k b q f r)) := Lib.hid fun k b q f r hf => Lx.lC_fine hm1 (fun i t f hf => (hff i t f hf).2) b q f hf r
  obtain ⟨i3, hi3, hz3, hs3', hb3'⟩ := info_parts info_Form
  obtain ⟨⟨v0, v1, v2, rfl, ⟨A0, c0, rfl, -⟩, ⟨A1, c1, rfl, -⟩, ⟨A2, c2, rfl, -⟩⟩, -, -, -⟩ := hr
  have hs64 : s.size ≤ 9223372036854775807 := by omega
  have cx : ∀ (W : World), W.heap[w.heap.size]? = some (.cells #[.slice A0 x.entries.length c0, .slice A1 x.endings.length c1, .slice A2 x.clitics.length c2] 26 (0, 0)) →
      W.cell? ⟨w.heap.size, 0, none⟩ = some (.slice A0 x.entries.length c0) ∧ W.cell? ⟨w.heap.size, 1, none⟩ = some (.slice A1 x.endings.length c1) ∧ W.cell? ⟨w.heap.size, 2, none⟩ = some (.slice A2 x.clitics.length c2) :=
    fun W h => ⟨by simp [World.cell?, h], by simp [World.cell?, h], by simp [World.cell?, h]⟩
  have CX := Lib.hid cx
  have hmI1 : ¬ (most : Int) < 1 := by omega
  have hmI2 : ¬ (64 : Int) < (most : Int) := by omega
  clear hz hchk hsb hal cx hff hwl
  go_enter Tryd.func22, Tryd.ntmps22
  go_wp2_with fail
  refine (HSP.out _ ((Below.refl _ _).alloc (Nat.le_refl _) _)).mono ?_
  rw [HZ.out]
  rintro e1 w1 ⟨rfl, hb1⟩
  have hwG0 : w.heap.size < w1.heap.size := by have := hb1.size; simp at this; omega
  have HX1 : Hid (w1.heap[w.heap.size]? = some (.cells #[.slice A0 x.entries.length c0, .slice A1 x.endings.length c1, .slice A2 x.clitics.length c2] 26 (0, 0))) := Lib.hid ((hb1.block _ (by simp)).trans (heap_alloc_new _ _))
  have HB1 := Lib.hid (((Below.refl w.heap.size w).alloc (Nat.le_refl _) (.cells #[.slice A0 x.entries.length c0, .slice A1 x.endings.length c1, .slice A2 x.clitics.length c2] 26)).trans (hb1.mono (by simp)))
  clear hb1
  obtain ⟨arr0, hsz0, harr0, hmk⟩ := make_cuts s.size (by omega)
  have hc0 := harr0 s.size (by omega)
  go_wp2_with fail
  obtain ⟨G, hG⟩ : ∃ G, G = w1.heap.size := ⟨_, rfl⟩
  have HG := Lib.hid hG
  have hwG : w.heap.size < G := by rw [hG]; exact hwG0
  obtain ⟨W7, hW7⟩ : ∃ W7, W7 = ((w1.alloc (.cells (arr0.setIfInBounds s.size (.slice (some ⟨w1.heap.size + 1, 0, none⟩) 1 1)) 45)).alloc (.cells #[.slice none 0 0, .int .i64 0] 51)) := ⟨_, rfl⟩
  rw [← hW7, ← hG]
  have HST : Hid (Below G w1 W7 ∧ G + 1 ≤ W7.heap.size ∧ RdTb W7 G s.size 0 (Lx.rtabT x most (Lx.formsR x s) s.size 0)) := Lib.hid (by
    refine ⟨?_, ?_, ?_⟩
    · rw [hW7]
      exact ((Below.refl G w1).alloc (by omega) _).alloc (by simp; omega) _
    · rw [hW7]; simp; omega
    · refine RdTb.start hsz0 harr0 ?_ ?_
      · rw [hW7, hG]; exact start_fst w1 _ _
      · rw [hW7, hG]; exact start_res2 w1 _ _)
  clear hW7 hG hmk hc0 hwG0 harr0 hsz0
  go_loopg [10] s.size (fun g i wr => ∃ (k : Nat) (p : Int), k ≤ s.size ∧ g = s.size - k ∧ p = (s.size : Int) - 1 - k ∧ i = .int .i64 p ∧ Below G w1 wr ∧ G + 1 ≤ wr.heap.size ∧ RdTb wr G s.size k (Lx.rtabT x most (Lx.formsR x s) s.size k))
  case atStart =>
    obtain ⟨q1, q2, q3⟩ := HST.out
    exact ⟨0, (s.size : Int) - 1, Nat.zero_le _, rfl, by omega, rfl, q1, q2, q3⟩
  case round =>
    obtain ⟨k, p, hk, rfl, hp, rfl, hbel, hsz, hrn⟩ := hrel
    have HBEL := Lib.hid hbel
    have HRN := Lib.hid hrn
    by_cases hp0 : 0 ≤ p
    · obtain ⟨i, hi⟩ : ∃ i : Nat, p = (i : Int) := ⟨p.toNat, by omega⟩
      subst hi
      have HK : Hid (i = s.size - (k + 1) ∧ k + 1 ≤ s.size) := Lib.hid ⟨by omega, by omega⟩
      have hin : i < s.size := by omega
      obtain ⟨S, hS⟩ : ∃ S, S = wr.heap.size := ⟨_, rfl⟩
      have HS := Lib.hid hS
      have hGS : G < S := by omega
      clear hp hp0 hbel hrn hS
      go_wp2_with fail
      go_loopg [11] (min (s.size - i) 24) (fun g tt wq => ∃ b tp : Nat, b ≤ min (s.size - i) 24 ∧ g = min (s.size - i) 24 - b ∧ tp = i + 1 + b ∧ tt = .int .i64 (tp : Int) ∧ Below G w1 wq ∧ S ≤ wq.heap.size ∧
        TabC wq G s.size S i (fun _ => True) (Lx.rtabT x most (Lx.formsR x s) s.size k) (Lx.lB x most (Lx.formsR x s) s.size k b))
      case atStart => exact ⟨0, i + 1, Nat.zero_le _, rfl, rfl, by go_num, HBEL.out, Nat.le_of_eq HS.out, by rw [HS.out]; exact HRN.out.open HK.out.1 HK.out.2⟩
      case round =>
        rename World => wq
        obtain ⟨b, tp, hb, rfl, hto, rfl, hbq, hsq, htq⟩ := hrel
        have HBQ := Lib.hid hbq
        have HTQ := Lib.hid htq
        by_cases hlt : b < min (s.size - i) 24
        · have hton : tp ≤ s.size := by omega
          have hto1 : (tp : Int) ≤ (s.size : Int) := by omega
          have hto2 : (tp : Int) - (i : Int) ≤ 24 := by omega
          have hio : i < tp := by omega
          have htpi : tp ≠ i := by omega
          obtain ⟨nl, hnl⟩ : ∃ nl, nl = ((Lx.rtabT x most (Lx.formsR x s) s.size k) tp).length := ⟨_, rfl⟩
          obtain ⟨u0, hu0, hru0⟩ := htq.cell hton htpi
          obtain ⟨Au, cu, rfl⟩ := hru0.form
          rw [← hnl] at hu0
          have HLT : Hid (b < min (s.size - (s.size - (k + 1))) 24) := Lib.hid (by rw [← HK.out.1]; exact hlt)
          have HTO : Hid (s.size - (k + 1) + 1 + b = tp) := Lib.hid (by rw [← HK.out.1]; exact hto.symm)
          have HNL := Lib.hid hnl
          have hnl64 : nl ≤ 64 := by rw [hnl]; exact Nat.le_trans (HFN.out k tp).len hm2
          have HTP := Lib.hid hto
          clear hto hru0
          by_cases hv0 : nl = 0
          · have hq0 : ((nl : Int) == 0) = true := by simp [hv0]
            have HN : Hid ((Lx.lB x most (Lx.formsR x s) s.size k (b + 1)) = (Lx.lB x most (Lx.formsR x s) s.size k b)) := Lib.hid (Lx.lB_none HLT.out (by rw [HTO.out]; exact List.eq_nil_of_length_eq_zero (by rw [← hnl]; exact hv0)))
            clear hbq htq hnl hv0
            go_wp2_with fail
            go_roundg (min (s.size - i) 24 - (b + 1))
            case measure => omega
            case rel => exact ⟨b + 1, tp + 1, by omega, rfl, by have := HTP.out; omega, by go_num, HBQ.out, hsq, by rw [HN.out]; exact HTQ.out⟩
          · have hq0 : ((nl : Int) == 0) = false := by simp [hv0]
            have HXQ := Lib.hid ((hbq.block w.heap.size hwG).trans HX1.out)
            have HRW := Lib.hid (fun (W : World) (hW : Below wq.heap.size wq W) => HRW0.out W i tp hton (HB1.out.trans ((hbq.trans (hW.mono (by omega))).mono (by rw [HG.out]; exact HB1.out.size))))
            have htoI : (i : Int) ≤ (tp : Int) := by omega
            clear hbq htq hnl hv0
            go_upto_region 15 with fail
            refine wp_region_inv2T (fun T0 => RcaI T0 wq (.agg #[.slice A0 x.entries.length c0, .slice A1 x.endings.length c1, .slice A2 x.clitics.length c2]) w.heap.size i tp s (Lx.formsR x s i tp)) (by kernel_rfl) (by kernel_rfl) ?g0a ?gstepa ?genda
            case g0a =>
              have hno : ∀ j, ¬ dn (Array.replicate 7 false) j := by
                intro j; unfold dn; by_cases hj : j < 7 <;> simp [Array.getD, hj]
              have na : ∀ {j : Nat} {Z : Prop}, dn (Array.replicate 7 false) j → Z := fun hj => absurd hj (hno _)
              exact ⟨_, rfl, { bel := (Below.refl _ _).drew, siz := rfl, kp := fun _ _ => rfl, k1 := rfl, k3 := rfl, k10 := rfl, k11 := rfl, p0 := na, p1 := na, p2 := na, p3 := na, p4 := na, p5 := fun hj => absurd hj (hno _), p6 := fun hj => absurd hj (hno _) }⟩
            case gstepa =>
              intro T0 d a wc i hd hI hi
              obtain ⟨hlt, hnd, hpre⟩ := mem_ready hi
              have hd' : d.size = 7 := hd
              have hin : i < 7 := hlt
              clear hi hd hlt
              obtain ⟨t, rfl, h⟩ := hI
              have hcs : i = 0 ∨ i = 1 ∨ i = 2 ∨ i = 3 ∨ i = 4 ∨ i = 5 ∨ i = 6 := by omega
              rcases hcs with rfl | rfl | rfl | rfl | rfl | rfl | rfl
              · have hi : 0 < d.size := by omega
                have q3 := h.k3
                obtain ⟨m0, m1, m2⟩ := CX.out wc ((h.bel.block _ (by omega)).trans HXQ.out)
                refine wpOp_plain rfl rfl ?_
                go_simp
                exact ⟨_, rfl, { bel := h.bel, siz := (by simpa using h.siz), kp := rk h.kp, k1 := rs h.k1, k3 := rs h.k3, k10 := rs h.k10, k11 := rs h.k11, p0 := fun _ => set_same (by have := h.siz; omega), p1 := rp hi h.p1, p2 := rp hi h.p2, p3 := rp hi h.p3, p4 := rp hi h.p4, p5 := rc hi h.p5 (fun v h2 => rdg_keep (Below.refl _ _) h2), p6 := rc hi h.p6 (fun v h2 => rdg_keep (Below.refl _ _) h2) }⟩
              · have hi : 1 < d.size := by omega
                have q1 := h.k1
                refine wpOp_plain rfl rfl ?_
                go_simp
                exact ⟨_, rfl, { bel := h.bel, siz := (by simpa using h.siz), kp := rk h.kp, k1 := rs h.k1, k3 := rs h.k3, k10 := rs h.k10, k11 := rs h.k11, p0 := rp hi h.p0, p1 := fun _ => set_same (by have := h.siz; omega), p2 := rp hi h.p2, p3 := rp hi h.p3, p4 := rp hi h.p4, p5 := rc hi h.p5 (fun v h2 => rdg_keep (Below.refl _ _) h2), p6 := rc hi h.p6 (fun v h2 => rdg_keep (Below.refl _ _) h2) }⟩
              · have hi : 2 < d.size := by omega
                have q10 := h.k10
                refine wpOp_plain rfl rfl ?_
                go_simp
                exact ⟨_, rfl, { bel := h.bel, siz := (by simpa using h.siz), kp := rk h.kp, k1 := rs h.k1, k3 := rs h.k3, k10 := rs h.k10, k11 := rs h.k11, p0 := rp hi h.p0, p1 := rp hi h.p1, p2 := fun _ => set_same (by have := h.siz; omega), p3 := rp hi h.p3, p4 := rp hi h.p4, p5 := rc hi h.p5 (fun v h2 => rdg_keep (Below.refl _ _) h2), p6 := rc hi h.p6 (fun v h2 => rdg_keep (Below.refl _ _) h2) }⟩
              · have hi : 3 < d.size := by omega
                have q11 := h.k11
                refine wpOp_plain rfl rfl ?_
                go_simp
                exact ⟨_, rfl, { bel := h.bel, siz := (by simpa using h.siz), kp := rk h.kp, k1 := rs h.k1, k3 := rs h.k3, k10 := rs h.k10, k11 := rs h.k11, p0 := rp hi h.p0, p1 := rp hi h.p1, p2 := rp hi h.p2, p3 := fun _ => set_same (by have := h.siz; omega), p4 := rp hi h.p4, p5 := rc hi h.p5 (fun v h2 => rdg_keep (Below.refl _ _) h2), p6 := rc hi h.p6 (fun v h2 => rdg_keep (Below.refl _ _) h2) }⟩
              · have hi : 4 < d.size := by omega
                have e1 := h.p1 (hpre _ rfl ⟨1, .data⟩ (by simp) rfl)
                have e2 := h.p2 (hpre _ rfl ⟨2, .data⟩ (by simp) rfl)
                have e3 := h.p3 (hpre _ rfl ⟨3, .data⟩ (by simp) rfl)
                refine wpOp_plain rfl rfl ?_
                go_simp
                exact ⟨_, rfl, { bel := h.bel, siz := (by simpa using h.siz), kp := rk h.kp, k1 := rs h.k1, k3 := rs h.k3, k10 := rs h.k10, k11 := rs h.k11, p0 := rp hi h.p0, p1 := rp hi h.p1, p2 := rp hi h.p2, p3 := rp hi h.p3, p4 := fun _ => set_same (by have := h.siz; omega), p5 := rc hi h.p5 (fun v h2 => rdg_keep (Below.refl _ _) h2), p6 := rc hi h.p6 (fun v h2 => rdg_keep (Below.refl _ _) h2) }⟩
              · have hi : 5 < d.size := by omega
                have e0 := h.p0 (hpre _ rfl ⟨0, .data⟩ (by simp) rfl)
                have e4 := h.p4 (hpre _ rfl ⟨4, .data⟩ (by simp) rfl)
                refine wpOp_plain rfl rfl ?_
                go_simp
                refine (HRW.out wc h.bel).mono ?_
                rintro e1 w1 ⟨v1, rfl, hog, hb⟩
                exact ⟨_, rfl, { bel := h.bel.trans (hb.mono h.bel.size), siz := (by simpa using h.siz), kp := rk h.kp, k1 := rs h.k1, k3 := rs h.k3, k10 := rs h.k10, k11 := rs h.k11, p0 := rp hi h.p0, p1 := rp hi h.p1, p2 := rp hi h.p2, p3 := rp hi h.p3, p4 := rp hi h.p4, p5 := fun _ => ⟨v1, set_same (by have := h.siz; omega), hog.rd.keep fun b hk => ⟨⟨hk.1, Nat.le_trans h.bel.size hk.2⟩, rfl⟩⟩, p6 := rc hi h.p6 (fun v h2 => rdg_keep hb h2) }⟩
              · have hi : 6 < d.size := by omega
                obtain ⟨v5, e5, r5⟩ := h.p5 (hpre _ rfl ⟨5, .data⟩ (by simp) rfl)
                refine wpOp_plain rfl rfl ?_
                go_simp
                exact ⟨_, rfl, { bel := h.bel, siz := (by simpa using h.siz), kp := rk h.kp, k1 := rs h.k1, k3 := rs h.k3, k10 := rs h.k10, k11 := rs h.k11, p0 := rp hi h.p0, p1 := rp hi h.p1, p2 := rp hi h.p2, p3 := rp hi h.p3, p4 := rp hi h.p4, p5 := rc hi h.p5 (fun v h2 => rdg_keep (Below.refl _ _) h2), p6 := fun _ => ⟨v5, set_same (by have := h.siz; omega), r5⟩ }⟩
            case genda =>
              intro d a wc hd hI hall
              obtain ⟨t, rfl, h⟩ := hI
              have hdn : ∀ j, j < 7 → dn d j := fun j hj => dn_all hd hall hj
              have hd : ∀ j, (_ : j < 7 := by decide) → dn d j := fun j hj => hdn j hj
              obtain ⟨v6, e6, r6⟩ := h.p6 (hd 6)
              obtain ⟨v5, e5, r5⟩ := h.p5 (hd 5)
              have hfe := frame_eq [(12, v6), (65, _), (66, _), (67, _), (68, _), (69, _), (70, v5)] (h.siz.trans rfl) h.kp rfl ⟨e6, h.p0 (hd 0), h.p1 (hd 1), h.p2 (hd 2), h.p3 (hd 3), h.p4 (hd 4), e5, trivial⟩
              simp only [List.foldl_cons, List.foldl_nil, List.setIfInBounds_toArray, List.set_cons_succ, List.set_cons_zero] at hfe
              have hbc := h.bel
              subst hfe
              clear h hdn hd hall
              rename World => wf
              have hsc := hbc.size
              obtain ⟨Af, cf, rfl⟩ := r6.form
              have HR6 := Lib.hid r6
              obtain ⟨FB, hFB⟩ : ∃ FB, FB = wq.heap.size := ⟨_, rfl⟩
              obtain ⟨FE, hFE⟩ : ∃ FE, FE = wf.heap.size := ⟨_, rfl⟩
              have HTC0 : Hid (TabC wf G s.size S i (fun g => g < FB ∨ FE ≤ g) (Lx.rtabT x most (Lx.formsR x s) s.size k) (Lx.lB x most (Lx.formsR x s) s.size k b)) := Lib.hid ((HTQ.out.weak (Q' := (fun g => g < FB ∨ FE ≤ g)) (fun g h1 h2 _ => .inl (by rw [hFB]; exact h2))).kept hbc hsq)
              have HBC := Lib.hid (HBQ.out.trans (hbc.mono (by omega)))
              obtain ⟨nf, hnf⟩ : ∃ nf, nf = (Lx.formsR x s i tp).length := ⟨_, rfl⟩
              rw [← hnf]
              have HNF := Lib.hid hnf
              have HFS : Hid (S ≤ FB ∧ FB ≤ FE ∧ FE = wf.heap.size ∧ FB = wq.heap.size) := Lib.hid ⟨by omega, by omega, hFE, hFB⟩
              have hsFE : FE ≤ wf.heap.size := by omega
              have hSFE : S ≤ FE := by omega
              have hnfle : nf ≤ 20000000 := by rw [hnf]; exact HCL.out i tp
              clear hbc r5 r6 hu0 hto1 hto2 hFB hFE hnf hsq hsc
              go_wp2_with fail
              go_loopg [13] nf (fun g j wz => ∃ q : Nat, q ≤ nf ∧ g = nf - q ∧ j = .int .i64 q ∧ Below G w1 wz ∧ FE ≤ wz.heap.size ∧ TabC wz G s.size S i (fun g => g < FB ∨ FE ≤ g) (Lx.rtabT x most (Lx.formsR x s) s.size k) (Lx.lF x most (Lx.formsR x s) s.size k b q) ∧ ∀ b, FB ≤ b → b < FE → wz.heap[b]? = wf.heap[b]?)
              case atStart => exact ⟨0, Nat.zero_le _, rfl, rfl, HBC.out, hsFE, HTC0.out, fun _ _ _ => rfl⟩
              case round =>
                rename World => wz
                obtain ⟨q, hq, rfl, rfl, hbz, hsz9, htz, hkz⟩ := hrel
                have HBZ := Lib.hid hbz
                have HTZ := Lib.hid htz
                have HKZ := Lib.hid hkz
                clear hkz
                by_cases hlq : q < nf
                · have hlqI : (q : Int) < (nf : Int) := by omega
                  obtain ⟨f, hf⟩ : ∃ f, (Lx.formsR x s i tp)[q]? = some f := ⟨_, List.getElem?_eq_getElem (by rw [← HNF.out]; exact hlq)⟩
                  have HF := Lib.hid hf
                  obtain ⟨b1, o1, hAf, hb1, hcell1⟩ := HR6.out.at (by rw [← HNF.out]; omega)
                  subst hAf
                  obtain ⟨cs1, ⟨sv, rfl, hsv⟩, hcs1⟩ := hcell1 q f hf
                  obtain ⟨Ak, ck, rfl, -⟩ := id hsv
                  obtain ⟨y0, hy0⟩ : ∃ y0 : Int × Int × (Option Addr × Nat × Nat), y0 = (f.entry, f.ending, (Ak, f.clitics.length, ck)) := ⟨_, rfl⟩
                  have HC1 : Hid (wf.cell? ⟨b1, o1 + q * 3, none⟩ = some (.int .i64 y0.1) ∧ wf.cell? ⟨b1, o1 + q * 3 + 1, none⟩ = some (.int .i64 y0.2.1) ∧ wf.cell? ⟨b1, o1 + q * 3 + 2, none⟩ = some (.slice y0.2.2.1 y0.2.2.2.1 y0.2.2.2.2) ∧ FB ≤ b1 ∧ b1 < FE) := Lib.hid (by
                    rw [hy0]
                    have := HFS.out
                    exact ⟨hcs1 0 _ rfl, hcs1 1 _ rfl, hcs1 2 _ rfl, by omega, by omega⟩)
                  have HY0 := Lib.hid hy0
                  have HSV := Lib.hid hsv
                  have HMEM := Lib.hid (List.mem_of_getElem? hf)
                  clear hbz htz hf hlq hb1 hcell1 hcs1 hsv hy0
                  go_wp2_with fail
                  go_loopg [14] nl (fun g j wy => ∃ r : Nat, r ≤ nl ∧ g = nl - r ∧ j = .int .i64 r ∧ Below G w1 wy ∧ FE ≤ wy.heap.size ∧ TabC wy G s.size S i (fun g => g < FB ∨ FE ≤ g) (Lx.rtabT x most (Lx.formsR x s) s.size k) (Lx.lC x most (Lx.formsR x s) s.size k b q f r) ∧ ∀ b, FB ≤ b → b < FE → wy.heap[b]? = wf.heap[b]?)
                  case atStart => exact ⟨0, Nat.zero_le _, rfl, rfl, HBZ.out, hsz9, HTZ.out, HKZ.out⟩
                  case round =>
                    rename World => wy
                    obtain ⟨r, hr9, rfl, rfl, hby, hsy9, hty, hky⟩ := hrel
                    have HBY := Lib.hid hby
                    have HTY := Lib.hid hty
                    have HKY := Lib.hid hky
                    obtain ⟨u1, hu1, hru1⟩ := hty.cell hton htpi
                    obtain ⟨A1', cu1, rfl⟩ := hru1.form
                    rw [← HNL.out] at hu1
                    by_cases hlr : r < nl
                    · have hlrI : (r : Int) < (nl : Int) := by omega
                      obtain ⟨c, hc⟩ : ∃ c, ((Lx.rtabT x most (Lx.formsR x s) s.size k) tp)[r]? = some c := ⟨_, List.getElem?_eq_getElem (by rw [← HNL.out]; exact hlr)⟩
                      have HMC := Lib.hid (List.mem_of_getElem? hc)
                      obtain ⟨b2, o2, hA1, hb2, hcell2⟩ := hru1.at (by rw [← HNL.out]; omega)
                      subst hA1
                      obtain ⟨cs2, ⟨vfr, rfl, hvfr⟩, hcs2⟩ := hcell2 r c hc
                      obtain ⟨ys, hysl, hrxs, hgrs⟩ := rdg_forms hvfr
                      obtain ⟨nc, hnc⟩ : ∃ nc, nc = ys.length := ⟨_, rfl⟩
                      obtain ⟨Ac, cc, rfl, -⟩ := id hrxs
                      rw [← hnc] at hrxs hcs2
                      have HYL : Hid (ys.length = nc) := Lib.hid hnc.symm
                      have HNC : Hid (nc = c.1.length) := Lib.hid (hnc.trans hysl)
                      have hcm := HWT.out k tp c HMC.out
                      have hhv := HWL.out f (HFF.out i tp f HMEM.out).1
                      have hncs : nc ≤ 1000 := by rw [hnc, hysl]; omega
                      have hc20 : 0 ≤ c.2 := hcm.2.1
                      have hc21 : c.2 ≤ 100000000 := by omega
                      have hhv0 : 0 ≤ Lx.heavyV x f := hhv.1
                      have hhv1 : Lx.heavyV x f ≤ 5000 := hhv.2
                      have HFSM := Lib.hid (HFF.out i tp f HMEM.out).2
                      have HFIT := Lib.hid (HFF.out i tp f HMEM.out).1
                      have hSY : S ≤ wy.heap.size := by omega
                      have CL : Hid (∀ W : World, Below wy.heap.size wy W → W.cell? ⟨w.heap.size, 0, none⟩ = some (.slice A0 x.entries.length c0) ∧ W.cell? ⟨w.heap.size, 1, none⟩ = some (.slice A1 x.endings.length c1) ∧ W.cell? ⟨w.heap.size, 2, none⟩ = some (.slice A2 x.clitics.length c2) ∧
                          W.cell? ⟨G, tp, none⟩ = some (.slice (some ⟨b2, o2, none⟩) nl cu1) ∧ W.cell? ⟨b1, o1 + q * 3, none⟩ = some (.int .i64 y0.1) ∧ W.cell? ⟨b1, o1 + q * 3 + 1, none⟩ = some (.int .i64 y0.2.1) ∧ W.cell? ⟨b1, o1 + q * 3 + 2, none⟩ = some (.slice y0.2.2.1 y0.2.2.2.1 y0.2.2.2.2) ∧
                          W.cell? ⟨b2, o2 + r * 2, none⟩ = some (.slice Ac nc cc) ∧ W.cell? ⟨b2, o2 + r * 2 + 1, none⟩ = some (.int .i64 c.2)) := Lib.hid fun W hW => by
                        obtain ⟨m0, m1, m2⟩ := CX.out W ((hW.block _ (by omega)).trans ((hby.block _ hwG).trans HX1.out))
                        obtain ⟨n0, n1, n2, n3, n4⟩ := HC1.out
                        have eb : W.heap[b1]? = wf.heap[b1]? := (hW.block b1 (by omega)).trans (hky b1 n3 n4)
                        have ef := fun (o : Nat) => World.cell?_of_block (w := wf) (w' := W) (a := ⟨b1, o, none⟩) eb
                        have e2 := fun (o : Nat) => hW.cell (p := ⟨b2, o, none⟩) (show b2 < wy.heap.size by omega)
                        exact ⟨m0, m1, m2, (hW.cell (p := ⟨G, tp, none⟩) (show G < wy.heap.size by omega)).trans hu1, (ef _).trans n0, (ef _).trans n1, (ef _).trans n2, (e2 _).trans (hcs2 0 _ rfl), (e2 _).trans (hcs2 1 _ rfl)⟩
                      have HYS : Hid (∀ W : World, Below wy.heap.size wy W → RdS W W.heap.size 3 enc3 (.slice Ac nc cc) ys) := Lib.hid fun W hW =>
                        (hrxs.keep (ok' := fun b => b < W.heap.size) fun b hb => ⟨by have := hW.size; omega, hW.block b (by omega)⟩).to fun b hb => hb
                      have HHV : Hid (∀ W : World, Below wy.heap.size wy W → Calls Tryd.prog 35 #[(.agg #[.slice A0 x.entries.length c0, .slice A1 x.endings.length c1, .slice A2 x.clitics.length c2]), .agg #[.int .i64 y0.1, .int .i64 y0.2.1, .slice y0.2.2.1 y0.2.2.2.1 y0.2.2.2.2]] W (RetIB (Lx.heavyV x f) W)) := Lib.hid fun W hW =>
                        HHV0.out W _ f (HB1.out.trans ((hby.trans (hW.mono (by omega))).mono (by rw [HG.out]; exact HB1.out.size))) HFIT.out ⟨⟨_, by rw [HY0.out], (HSV.out.keep (ok' := fun b => b < W.heap.size) fun b hb => by
                          have hs1 := HFS.out
                          have hs2 := hW.size
                          exact ⟨by omega, (hW.block b (by omega)).trans (hky b (by omega) (by omega))⟩).to fun b hb => hb⟩⟩
                      obtain ⟨vo, hvo, hovo, hob⟩ := hty.own
                      have HVO := Lib.hid hvo
                      have HOVO := Lib.hid hovo
                      have HOB := Lib.hid hob
                      have HGRS := Lib.hid hgrs
                      have HC := Lib.hid hc
                      clear hby hty hky hru1 hb2 hcell2 hcs2 hrxs hgrs hvfr hnc hysl hcm hhv hvo hovo hob hc hlr
                      go_upto_region 22 with fail
                      refine wp_region_inv2T (fun T0 => RcbI T0 wy (.agg #[.slice A0 x.entries.length c0, .slice A1 x.endings.length c1, .slice A2 x.clitics.length c2]) w.heap.size G s.size b1 o1 nf cf q b2 o2 nl cu1 r tp nc cc Ac y0 ys (Lx.heavyV x f) c.2) (by kernel_rfl) (by kernel_rfl) ?g0b ?gstepb ?gendb
                      case g0b =>
                        have hno : ∀ j, ¬ dn (Array.replicate 32 false) j := by
                          intro j; unfold dn; by_cases hj : j < 32 <;> simp [Array.getD, hj]
                        have na : ∀ {j : Nat} {Z : Prop}, dn (Array.replicate 32 false) j → Z := fun hj => absurd hj (hno _)
                        exact ⟨_, rfl, { bel := (Below.refl _ _).drew, siz := rfl, kp := fun _ _ => rfl, k3 := rfl, k9 := rfl, k11 := rfl, k12 := rfl, k13 := rfl, k14 := rfl, p0 := na, p1 := na, p2 := na, p3 := na, p5 := na, p6 := na, p7 := na, p8 := na, p9 := na, p10 := na, p11 := na, p12 := na, p14 := na, p15 := na, p16 := na, p17 := na, p18 := na, p19 := na, p20 := na, p21 := na, p22 := na, p23 := na, p24 := na, p25 := na, p26 := na, p27 := na, p28 := na, q4 := fun hj => absurd hj (hno _), q13 := fun hj => absurd hj (hno _), q30 := fun hj => absurd hj (hno _), l29 := fun hj => absurd hj (hno _), l31 := fun hj => absurd hj (hno _) }⟩
                      case gstepb =>
                        intro T0 d a wc i hd hI hi
                        obtain ⟨hlt, hnd, hpre⟩ := mem_ready hi
                        have hd' : d.size = 32 := hd
                        have hin : i < 32 := hlt
                        clear hi hd hlt
                        obtain ⟨t, rfl, h⟩ := hI
                        have hcs : i = 0 ∨ i = 1 ∨ i = 2 ∨ i = 3 ∨ i = 4 ∨ i = 5 ∨ i = 6 ∨ i = 7 ∨ i = 8 ∨ i = 9 ∨ i = 10 ∨ i = 11 ∨ i = 12 ∨ i = 13 ∨ i = 14 ∨ i = 15 ∨ i = 16 ∨ i = 17 ∨ i = 18 ∨ i = 19 ∨ i = 20 ∨ i = 21 ∨ i = 22 ∨ i = 23 ∨ i = 24 ∨ i = 25 ∨ i = 26 ∨ i = 27 ∨ i = 28 ∨ i = 29 ∨ i = 30 ∨ i = 31 := by omega
                        rcases hcs with rfl | rfl | rfl | rfl | rfl | rfl | rfl | rfl | rfl | rfl | rfl | rfl | rfl | rfl | rfl | rfl | rfl | rfl | rfl | rfl | rfl | rfl | rfl | rfl | rfl | rfl | rfl | rfl | rfl | rfl | rfl | rfl
                        · have hi : 0 < d.size := by omega
                          have q12 := h.k12
                          refine wpOp_plain rfl rfl ?_
                          go_simp
                          exact ⟨_, rfl, { bel := h.bel, siz := (by simpa using h.siz), kp := rk h.kp, k3 := rs h.k3, k9 := rs h.k9, k11 := rs h.k11, k12 := rs h.k12, k13 := rs h.k13, k14 := rs h.k14, q4 := fun hj hk => by obtain ⟨v, h1, h2⟩ := h.q4 (dn_of hi hj (by decide)) (fun q => hk (dn_up q)); exact ⟨v, (set_other (by decide)).trans h1, h2⟩, q13 := fun hj => by obtain ⟨v, h1, h2, h3⟩ := h.q13 (dn_of hi hj (by decide)); exact ⟨v, (set_other (by decide)).trans h1, h2, fun h9 => (set_other (by decide)).trans (h3 (dn_of hi h9 (by decide)))⟩, q30 := fun hj => by obtain ⟨g, cur, h1, h2, h3, h4, h5⟩ := h.q30 (dn_of hi hj (by decide)); exact ⟨g, cur, (set_other (by decide)).trans h1, h2, h3, h4, fun h9 => by obtain ⟨v, e1, e2⟩ := h5 (dn_of hi h9 (by decide)); exact ⟨v, (set_other (by decide)).trans e1, e2⟩⟩, l29 := fun hj => dn_up (h.l29 (dn_of hi hj (by decide))), l31 := fun hj => (fun q => ⟨dn_up q.1, dn_up q.2⟩) (h.l31 (dn_of hi hj (by decide))), p0 := fun _ => set_same (by have := h.siz; omega), p1 := rp hi h.p1, p2 := rp hi h.p2, p3 := rp hi h.p3, p5 := rp hi h.p5, p6 := rp hi h.p6, p7 := rp hi h.p7, p8 := rp hi h.p8, p9 := rp hi h.p9, p10 := rp hi h.p10, p11 := rp hi h.p11, p12 := rp hi h.p12, p14 := rp hi h.p14, p15 := rp hi h.p15, p16 := rp hi h.p16, p17 := rp hi h.p17, p18 := rp hi h.p18, p19 := rp hi h.p19, p20 := rp hi h.p20, p21 := rp hi h.p21, p22 := rp hi h.p22, p23 := rp hi h.p23, p24 := rp hi h.p24, p25 := rp hi h.p25, p26 := rp hi h.p26, p27 := rp hi h.p27, p28 := rp hi h.p28 }⟩
                        · have hi : 1 < d.size := by omega
                          have q13 := h.k13
                          refine wpOp_plain rfl rfl ?_
                          go_simp
                          exact ⟨_, rfl, { bel := h.bel, siz := (by simpa using h.siz), kp := rk h.kp, k3 := rs h.k3, k9 := rs h.k9, k11 := rs h.k11, k12 := rs h.k12, k13 := rs h.k13, k14 := rs h.k14, q4 := fun hj hk => by obtain ⟨v, h1, h2⟩ := h.q4 (dn_of hi hj (by decide)) (fun q => hk (dn_up q)); exact ⟨v, (set_other (by decide)).trans h1, h2⟩, q13 := fun hj => by obtain ⟨v, h1, h2, h3⟩ := h.q13 (dn_of hi hj (by decide)); exact ⟨v, (set_other (by decide)).trans h1, h2, fun h9 => (set_other (by decide)).trans (h3 (dn_of hi h9 (by decide)))⟩, q30 := fun hj => by obtain ⟨g, cur, h1, h2, h3, h4, h5⟩ := h.q30 (dn_of hi hj (by decide)); exact ⟨g, cur, (set_other (by decide)).trans h1, h2, h3, h4, fun h9 => by obtain ⟨v, e1, e2⟩ := h5 (dn_of hi h9 (by decide)); exact ⟨v, (set_other (by decide)).trans e1, e2⟩⟩, l29 := fun hj => dn_up (h.l29 (dn_of hi hj (by decide))), l31 := fun hj => (fun q => ⟨dn_up q.1, dn_up q.2⟩) (h.l31 (dn_of hi hj (by decide))), p0 := rp hi h.p0, p1 := fun _ => set_same (by have := h.siz; omega), p2 := rp hi h.p2, p3 := rp hi h.p3, p5 := rp hi h.p5, p6 := rp hi h.p6, p7 := rp hi h.p7, p8 := rp hi h.p8, p9 := rp hi h.p9, p10 := rp hi h.p10, p11 := rp hi h.p11, p12 := rp hi h.p12, p14 := rp hi h.p14, p15 := rp hi h.p15, p16 := rp hi h.p16, p17 := rp hi h.p17, p18 := rp hi h.p18, p19 := rp hi h.p19, p20 := rp hi h.p20, p21 := rp hi h.p21, p22 := rp hi h.p22, p23 := rp hi h.p23, p24 := rp hi h.p24, p25 := rp hi h.p25, p26 := rp hi h.p26, p27 := rp hi h.p27, p28 := rp hi h.p28 }⟩
                        · have hi : 2 < d.size := by omega
                          have e0 := h.p0 (hpre _ rfl ⟨0, .data⟩ (by simp) rfl)
                          have e1 := h.p1 (hpre _ rfl ⟨1, .data⟩ (by simp) rfl)
                          have hx1 : (q : Int) < (nf : Int) := by omega
                          refine wpOp_plain rfl rfl ?_
                          go_simp
                          exact ⟨_, rfl, { bel := h.bel, siz := (by simpa using h.siz), kp := rk h.kp, k3 := rs h.k3, k9 := rs h.k9, k11 := rs h.k11, k12 := rs h.k12, k13 := rs h.k13, k14 := rs h.k14, q4 := fun hj hk => by obtain ⟨v, h1, h2⟩ := h.q4 (dn_of hi hj (by decide)) (fun q => hk (dn_up q)); exact ⟨v, (set_other (by decide)).trans h1, h2⟩, q13 := fun hj => by obtain ⟨v, h1, h2, h3⟩ := h.q13 (dn_of hi hj (by decide)); exact ⟨v, (set_other (by decide)).trans h1, h2, fun h9 => (set_other (by decide)).trans (h3 (dn_of hi h9 (by decide)))⟩, q30 := fun hj => by obtain ⟨g, cur, h1, h2, h3, h4, h5⟩ := h.q30 (dn_of hi hj (by decide)); exact ⟨g, cur, (set_other (by decide)).trans h1, h2, h3, h4, fun h9 => by obtain ⟨v, e1, e2⟩ := h5 (dn_of hi h9 (by decide)); exact ⟨v, (set_other (by decide)).trans e1, e2⟩⟩, l29 := fun hj => dn_up (h.l29 (dn_of hi hj (by decide))), l31 := fun hj => (fun q => ⟨dn_up q.1, dn_up q.2⟩) (h.l31 (dn_of hi hj (by decide))), p0 := rp hi h.p0, p1 := rp hi h.p1, p2 := fun _ => set_same (by have := h.siz; omega), p3 := rp hi h.p3, p5 := rp hi h.p5, p6 := rp hi h.p6, p7 := rp hi h.p7, p8 := rp hi h.p8, p9 := rp hi h.p9, p10 := rp hi h.p10, p11 := rp hi h.p11, p12 := rp hi h.p12, p14 := rp hi h.p14, p15 := rp hi h.p15, p16 := rp hi h.p16, p17 := rp hi h.p17, p18 := rp hi h.p18, p19 := rp hi h.p19, p20 := rp hi h.p20, p21 := rp hi h.p21, p22 := rp hi h.p22, p23 := rp hi h.p23, p24 := rp hi h.p24, p25 := rp hi h.p25, p26 := rp hi h.p26, p27 := rp hi h.p27, p28 := rp hi h.p28 }⟩
                        · have hi : 3 < d.size := by omega
                          have e2 := h.p2 (hpre _ rfl ⟨2, .data⟩ (by simp) rfl)
                          obtain ⟨k0, k1, k2, k3, k4, k5, k6, k7, k8⟩ := CL.out wc h.bel
                          refine wpOp_plain rfl rfl ?_
                          go_simp
                          exact ⟨_, rfl, { bel := h.bel, siz := (by simpa using h.siz), kp := rk h.kp, k3 := rs h.k3, k9 := rs h.k9, k11 := rs h.k11, k12 := rs h.k12, k13 := rs h.k13, k14 := rs h.k14, q4 := fun hj hk => by obtain ⟨v, h1, h2⟩ := h.q4 (dn_of hi hj (by decide)) (fun q => hk (dn_up q)); exact ⟨v, (set_other (by decide)).trans h1, h2⟩, q13 := fun hj => by obtain ⟨v, h1, h2, h3⟩ := h.q13 (dn_of hi hj (by decide)); exact ⟨v, (set_other (by decide)).trans h1, h2, fun h9 => (set_other (by decide)).trans (h3 (dn_of hi h9 (by decide)))⟩, q30 := fun hj => by obtain ⟨g, cur, h1, h2, h3, h4, h5⟩ := h.q30 (dn_of hi hj (by decide)); exact ⟨g, cur, (set_other (by decide)).trans h1, h2, h3, h4, fun h9 => by obtain ⟨v, e1, e2⟩ := h5 (dn_of hi h9 (by decide)); exact ⟨v, (set_other (by decide)).trans e1, e2⟩⟩, l29 := fun hj => dn_up (h.l29 (dn_of hi hj (by decide))), l31 := fun hj => (fun q => ⟨dn_up q.1, dn_up q.2⟩) (h.l31 (dn_of hi hj (by decide))), p0 := rp hi h.p0, p1 := rp hi h.p1, p2 := rp hi h.p2, p3 := fun _ => set_same (by have := h.siz; omega), p5 := rp hi h.p5, p6 := rp hi h.p6, p7 := rp hi h.p7, p8 := rp hi h.p8, p9 := rp hi h.p9, p10 := rp hi h.p10, p11 := rp hi h.p11, p12 := rp hi h.p12, p14 := rp hi h.p14, p15 := rp hi h.p15, p16 := rp hi h.p16, p17 := rp hi h.p17, p18 := rp hi h.p18, p19 := rp hi h.p19, p20 := rp hi h.p20, p21 := rp hi h.p21, p22 := rp hi h.p22, p23 := rp hi h.p23, p24 := rp hi h.p24, p25 := rp hi h.p25, p26 := rp hi h.p26, p27 := rp hi h.p27, p28 := rp hi h.p28 }⟩
                        · have hi : 4 < d.size := by omega
                          have hnd' := not_dn hi hnd
                          have d3 : dn d 3 := hpre _ rfl ⟨3, .data⟩ (by simp) rfl
                          have e3 := h.p3 d3
                          have hb : Below wc.heap.size wc (wc.alloc (.cells #[.int .i64 y0.1, .int .i64 y0.2.1, .slice y0.2.2.1 y0.2.2.2.1 y0.2.2.2.2] 29)) := (Below.refl _ _).alloc (Nat.le_refl _) _
                          refine wpOp_plain rfl rfl ?_
                          go_simp
                          exact ⟨_, rfl, { bel := h.bel.trans (hb.mono h.bel.size), siz := (by simpa using h.siz), kp := rk h.kp, k3 := rs h.k3, k9 := rs h.k9, k11 := rs h.k11, k12 := rs h.k12, k13 := rs h.k13, k14 := rs h.k14, q4 := fun _ _ => ⟨_, set_same (by have := h.siz; omega), World.ownsRow_lit (w := wc) (base := wy.heap.size) (e := 29) (size := 3) #[.int .i64 y0.1, .int .i64 y0.2.1, .slice y0.2.2.1 y0.2.2.2.1 y0.2.2.2.2] 1 h.bel.size (by decide) rfl⟩, q13 := fun hj => by obtain ⟨v, h1, h2, h3⟩ := h.q13 (dn_of hi hj (by decide)); exact ⟨v, (set_other (by decide)).trans h1, keep_own h2 hb, fun h9 => (set_other (by decide)).trans (h3 (dn_of hi h9 (by decide)))⟩, q30 := fun hj => by obtain ⟨g, cur, h1, h2, h3, h4, h5⟩ := h.q30 (dn_of hi hj (by decide)); exact ⟨g, cur, (set_other (by decide)).trans h1, h2, (hb.block g (Array.getElem?_eq_some_iff.1 h3).1).trans h3, h4, fun h9 => by obtain ⟨v, e1, e2⟩ := h5 (dn_of hi h9 (by decide)); exact ⟨v, (set_other (by decide)).trans e1, e2⟩⟩, l29 := fun hj => dn_up (h.l29 (dn_of hi hj (by decide))), l31 := fun hj => (fun q => ⟨dn_up q.1, dn_up q.2⟩) (h.l31 (dn_of hi hj (by decide))), p0 := rp hi h.p0, p1 := rp hi h.p1, p2 := rp hi h.p2, p3 := rp hi h.p3, p5 := rp hi h.p5, p6 := rp hi h.p6, p7 := rp hi h.p7, p8 := rp hi h.p8, p9 := rp hi h.p9, p10 := rp hi h.p10, p11 := rp hi h.p11, p12 := rp hi h.p12, p14 := rp hi h.p14, p15 := rp hi h.p15, p16 := rp hi h.p16, p17 := rp hi h.p17, p18 := rp hi h.p18, p19 := rp hi h.p19, p20 := rp hi h.p20, p21 := rp hi h.p21, p22 := rp hi h.p22, p23 := rp hi h.p23, p24 := rp hi h.p24, p25 := rp hi h.p25, p26 := rp hi h.p26, p27 := rp hi h.p27, p28 := rp hi h.p28 }⟩
                        · have hi : 5 < d.size := by omega
                          have q9 := h.k9
                          refine wpOp_plain rfl rfl ?_
                          go_simp
                          exact ⟨_, rfl, { bel := h.bel, siz := (by simpa using h.siz), kp := rk h.kp, k3 := rs h.k3, k9 := rs h.k9, k11 := rs h.k11, k12 := rs h.k12, k13 := rs h.k13, k14 := rs h.k14, q4 := fun hj hk => by obtain ⟨v, h1, h2⟩ := h.q4 (dn_of hi hj (by decide)) (fun q => hk (dn_up q)); exact ⟨v, (set_other (by decide)).trans h1, h2⟩, q13 := fun hj => by obtain ⟨v, h1, h2, h3⟩ := h.q13 (dn_of hi hj (by decide)); exact ⟨v, (set_other (by decide)).trans h1, h2, fun h9 => (set_other (by decide)).trans (h3 (dn_of hi h9 (by decide)))⟩, q30 := fun hj => by obtain ⟨g, cur, h1, h2, h3, h4, h5⟩ := h.q30 (dn_of hi hj (by decide)); exact ⟨g, cur, (set_other (by decide)).trans h1, h2, h3, h4, fun h9 => by obtain ⟨v, e1, e2⟩ := h5 (dn_of hi h9 (by decide)); exact ⟨v, (set_other (by decide)).trans e1, e2⟩⟩, l29 := fun hj => dn_up (h.l29 (dn_of hi hj (by decide))), l31 := fun hj => (fun q => ⟨dn_up q.1, dn_up q.2⟩) (h.l31 (dn_of hi hj (by decide))), p0 := rp hi h.p0, p1 := rp hi h.p1, p2 := rp hi h.p2, p3 := rp hi h.p3, p5 := fun _ => set_same (by have := h.siz; omega), p6 := rp hi h.p6, p7 := rp hi h.p7, p8 := rp hi h.p8, p9 := rp hi h.p9, p10 := rp hi h.p10, p11 := rp hi h.p11, p12 := rp hi h.p12, p14 := rp hi h.p14, p15 := rp hi h.p15, p16 := rp hi h.p16, p17 := rp hi h.p17, p18 := rp hi h.p18, p19 := rp hi h.p19, p20 := rp hi h.p20, p21 := rp hi h.p21, p22 := rp hi h.p22, p23 := rp hi h.p23, p24 := rp hi h.p24, p25 := rp hi h.p25, p26 := rp hi h.p26, p27 := rp hi h.p27, p28 := rp hi h.p28 }⟩
                        · have hi : 6 < d.size := by omega
                          have q11 := h.k11
                          refine wpOp_plain rfl rfl ?_
                          go_simp
                          exact ⟨_, rfl, { bel := h.bel, siz := (by simpa using h.siz), kp := rk h.kp, k3 := rs h.k3, k9 := rs h.k9, k11 := rs h.k11, k12 := rs h.k12, k13 := rs h.k13, k14 := rs h.k14, q4 := fun hj hk => by obtain ⟨v, h1, h2⟩ := h.q4 (dn_of hi hj (by decide)) (fun q => hk (dn_up q)); exact ⟨v, (set_other (by decide)).trans h1, h2⟩, q13 := fun hj => by obtain ⟨v, h1, h2, h3⟩ := h.q13 (dn_of hi hj (by decide)); exact ⟨v, (set_other (by decide)).trans h1, h2, fun h9 => (set_other (by decide)).trans (h3 (dn_of hi h9 (by decide)))⟩, q30 := fun hj => by obtain ⟨g, cur, h1, h2, h3, h4, h5⟩ := h.q30 (dn_of hi hj (by decide)); exact ⟨g, cur, (set_other (by decide)).trans h1, h2, h3, h4, fun h9 => by obtain ⟨v, e1, e2⟩ := h5 (dn_of hi h9 (by decide)); exact ⟨v, (set_other (by decide)).trans e1, e2⟩⟩, l29 := fun hj => dn_up (h.l29 (dn_of hi hj (by decide))), l31 := fun hj => (fun q => ⟨dn_up q.1, dn_up q.2⟩) (h.l31 (dn_of hi hj (by decide))), p0 := rp hi h.p0, p1 := rp hi h.p1, p2 := rp hi h.p2, p3 := rp hi h.p3, p5 := rp hi h.p5, p6 := fun _ => set_same (by have := h.siz; omega), p7 := rp hi h.p7, p8 := rp hi h.p8, p9 := rp hi h.p9, p10 := rp hi h.p10, p11 := rp hi h.p11, p12 := rp hi h.p12, p14 := rp hi h.p14, p15 := rp hi h.p15, p16 := rp hi h.p16, p17 := rp hi h.p17, p18 := rp hi h.p18, p19 := rp hi h.p19, p20 := rp hi h.p20, p21 := rp hi h.p21, p22 := rp hi h.p22, p23 := rp hi h.p23, p24 := rp hi h.p24, p25 := rp hi h.p25, p26 := rp hi h.p26, p27 := rp hi h.p27, p28 := rp hi h.p28 }⟩
                        · have hi : 7 < d.size := by omega
                          have e5 := h.p5 (hpre _ rfl ⟨5, .data⟩ (by simp) rfl)
                          have e6 := h.p6 (hpre _ rfl ⟨6, .data⟩ (by simp) rfl)
                          have hx1 : (tp : Int) < (s.size : Int) + 1 := by omega
                          refine wpOp_plain rfl rfl ?_
                          go_simp
                          exact ⟨_, rfl, { bel := h.bel, siz := (by simpa using h.siz), kp := rk h.kp, k3 := rs h.k3, k9 := rs h.k9, k11 := rs h.k11, k12 := rs h.k12, k13 := rs h.k13, k14 := rs h.k14, q4 := fun hj hk => by obtain ⟨v, h1, h2⟩ := h.q4 (dn_of hi hj (by decide)) (fun q => hk (dn_up q)); exact ⟨v, (set_other (by decide)).trans h1, h2⟩, q13 := fun hj => by obtain ⟨v, h1, h2, h3⟩ := h.q13 (dn_of hi hj (by decide)); exact ⟨v, (set_other (by decide)).trans h1, h2, fun h9 => (set_other (by decide)).trans (h3 (dn_of hi h9 (by decide)))⟩, q30 := fun hj => by obtain ⟨g, cur, h1, h2, h3, h4, h5⟩ := h.q30 (dn_of hi hj (by decide)); exact ⟨g, cur, (set_other (by decide)).trans h1, h2, h3, h4, fun h9 => by obtain ⟨v, e1, e2⟩ := h5 (dn_of hi h9 (by decide)); exact ⟨v, (set_other (by decide)).trans e1, e2⟩⟩, l29 := fun hj => dn_up (h.l29 (dn_of hi hj (by decide))), l31 := fun hj => (fun q => ⟨dn_up q.1, dn_up q.2⟩) (h.l31 (dn_of hi hj (by decide))), p0 := rp hi h.p0, p1 := rp hi h.p1, p2 := rp hi h.p2, p3 := rp hi h.p3, p5 := rp hi h.p5, p6 := rp hi h.p6, p7 := fun _ => set_same (by have := h.siz; omega), p8 := rp hi h.p8, p9 := rp hi h.p9, p10 := rp hi h.p10, p11 := rp hi h.p11, p12 := rp hi h.p12, p14 := rp hi h.p14, p15 := rp hi h.p15, p16 := rp hi h.p16, p17 := rp hi h.p17, p18 := rp hi h.p18, p19 := rp hi h.p19, p20 := rp hi h.p20, p21 := rp hi h.p21, p22 := rp hi h.p22, p23 := rp hi h.p23, p24 := rp hi h.p24, p25 := rp hi h.p25, p26 := rp hi h.p26, p27 := rp hi h.p27, p28 := rp hi h.p28 }⟩
                        · have hi : 8 < d.size := by omega
                          have e7 := h.p7 (hpre _ rfl ⟨7, .data⟩ (by simp) rfl)
                          obtain ⟨k0, k1, k2, k3, k4, k5, k6, k7, k8⟩ := CL.out wc h.bel
                          refine wpOp_plain rfl rfl ?_
                          go_simp
                          exact ⟨_, rfl, { bel := h.bel, siz := (by simpa using h.siz), kp := rk h.kp, k3 := rs h.k3, k9 := rs h.k9, k11 := rs h.k11, k12 := rs h.k12, k13 := rs h.k13, k14 := rs h.k14, q4 := fun hj hk => by obtain ⟨v, h1, h2⟩ := h.q4 (dn_of hi hj (by decide)) (fun q => hk (dn_up q)); exact ⟨v, (set_other (by decide)).trans h1, h2⟩, q13 := fun hj => by obtain ⟨v, h1, h2, h3⟩ := h.q13 (dn_of hi hj (by decide)); exact ⟨v, (set_other (by decide)).trans h1, h2, fun h9 => (set_other (by decide)).trans (h3 (dn_of hi h9 (by decide)))⟩, q30 := fun hj => by obtain ⟨g, cur, h1, h2, h3, h4, h5⟩ := h.q30 (dn_of hi hj (by decide)); exact ⟨g, cur, (set_other (by decide)).trans h1, h2, h3, h4, fun h9 => by obtain ⟨v, e1, e2⟩ := h5 (dn_of hi h9 (by decide)); exact ⟨v, (set_other (by decide)).trans e1, e2⟩⟩, l29 := fun hj => dn_up (h.l29 (dn_of hi hj (by decide))), l31 := fun hj => (fun q => ⟨dn_up q.1, dn_up q.2⟩) (h.l31 (dn_of hi hj (by decide))), p0 := rp hi h.p0, p1 := rp hi h.p1, p2 := rp hi h.p2, p3 := rp hi h.p3, p5 := rp hi h.p5, p6 := rp hi h.p6, p7 := rp hi h.p7, p8 := fun _ => set_same (by have := h.siz; omega), p9 := rp hi h.p9, p10 := rp hi h.p10, p11 := rp hi h.p11, p12 := rp hi h.p12, p14 := rp hi h.p14, p15 := rp hi h.p15, p16 := rp hi h.p16, p17 := rp hi h.p17, p18 := rp hi h.p18, p19 := rp hi h.p19, p20 := rp hi h.p20, p21 := rp hi h.p21, p22 := rp hi h.p22, p23 := rp hi h.p23, p24 := rp hi h.p24, p25 := rp hi h.p25, p26 := rp hi h.p26, p27 := rp hi h.p27, p28 := rp hi h.p28 }⟩
                        · have hi : 9 < d.size := by omega
                          have q14 := h.k14
                          refine wpOp_plain rfl rfl ?_
                          go_simp
                          exact ⟨_, rfl, { bel := h.bel, siz := (by simpa using h.siz), kp := rk h.kp, k3 := rs h.k3, k9 := rs h.k9, k11 := rs h.k11, k12 := rs h.k12, k13 := rs h.k13, k14 := rs h.k14, q4 := fun hj hk => by obtain ⟨v, h1, h2⟩ := h.q4 (dn_of hi hj (by decide)) (fun q => hk (dn_up q)); exact ⟨v, (set_other (by decide)).trans h1, h2⟩, q13 := fun hj => by obtain ⟨v, h1, h2, h3⟩ := h.q13 (dn_of hi hj (by decide)); exact ⟨v, (set_other (by decide)).trans h1, h2, fun h9 => (set_other (by decide)).trans (h3 (dn_of hi h9 (by decide)))⟩, q30 := fun hj => by obtain ⟨g, cur, h1, h2, h3, h4, h5⟩ := h.q30 (dn_of hi hj (by decide)); exact ⟨g, cur, (set_other (by decide)).trans h1, h2, h3, h4, fun h9 => by obtain ⟨v, e1, e2⟩ := h5 (dn_of hi h9 (by decide)); exact ⟨v, (set_other (by decide)).trans e1, e2⟩⟩, l29 := fun hj => dn_up (h.l29 (dn_of hi hj (by decide))), l31 := fun hj => (fun q => ⟨dn_up q.1, dn_up q.2⟩) (h.l31 (dn_of hi hj (by decide))), p0 := rp hi h.p0, p1 := rp hi h.p1, p2 := rp hi h.p2, p3 := rp hi h.p3, p5 := rp hi h.p5, p6 := rp hi h.p6, p7 := rp hi h.p7, p8 := rp hi h.p8, p9 := fun _ => set_same (by have := h.siz; omega), p10 := rp hi h.p10, p11 := rp hi h.p11, p12 := rp hi h.p12, p14 := rp hi h.p14, p15 := rp hi h.p15, p16 := rp hi h.p16, p17 := rp hi h.p17, p18 := rp hi h.p18, p19 := rp hi h.p19, p20 := rp hi h.p20, p21 := rp hi h.p21, p22 := rp hi h.p22, p23 := rp hi h.p23, p24 := rp hi h.p24, p25 := rp hi h.p25, p26 := rp hi h.p26, p27 := rp hi h.p27, p28 := rp hi h.p28 }⟩
                        · have hi : 10 < d.size := by omega
                          have e8 := h.p8 (hpre _ rfl ⟨8, .data⟩ (by simp) rfl)
                          have e9 := h.p9 (hpre _ rfl ⟨9, .data⟩ (by simp) rfl)
                          have hx1 : (r : Int) < (nl : Int) := by omega
                          refine wpOp_plain rfl rfl ?_
                          go_simp
                          exact ⟨_, rfl, { bel := h.bel, siz := (by simpa using h.siz), kp := rk h.kp, k3 := rs h.k3, k9 := rs h.k9, k11 := rs h.k11, k12 := rs h.k12, k13 := rs h.k13, k14 := rs h.k14, q4 := fun hj hk => by obtain ⟨v, h1, h2⟩ := h.q4 (dn_of hi hj (by decide)) (fun q => hk (dn_up q)); exact ⟨v, (set_other (by decide)).trans h1, h2⟩, q13 := fun hj => by obtain ⟨v, h1, h2, h3⟩ := h.q13 (dn_of hi hj (by decide)); exact ⟨v, (set_other (by decide)).trans h1, h2, fun h9 => (set_other (by decide)).trans (h3 (dn_of hi h9 (by decide)))⟩, q30 := fun hj => by obtain ⟨g, cur, h1, h2, h3, h4, h5⟩ := h.q30 (dn_of hi hj (by decide)); exact ⟨g, cur, (set_other (by decide)).trans h1, h2, h3, h4, fun h9 => by obtain ⟨v, e1, e2⟩ := h5 (dn_of hi h9 (by decide)); exact ⟨v, (set_other (by decide)).trans e1, e2⟩⟩, l29 := fun hj => dn_up (h.l29 (dn_of hi hj (by decide))), l31 := fun hj => (fun q => ⟨dn_up q.1, dn_up q.2⟩) (h.l31 (dn_of hi hj (by decide))), p0 := rp hi h.p0, p1 := rp hi h.p1, p2 := rp hi h.p2, p3 := rp hi h.p3, p5 := rp hi h.p5, p6 := rp hi h.p6, p7 := rp hi h.p7, p8 := rp hi h.p8, p9 := rp hi h.p9, p10 := fun _ => set_same (by have := h.siz; omega), p11 := rp hi h.p11, p12 := rp hi h.p12, p14 := rp hi h.p14, p15 := rp hi h.p15, p16 := rp hi h.p16, p17 := rp hi h.p17, p18 := rp hi h.p18, p19 := rp hi h.p19, p20 := rp hi h.p20, p21 := rp hi h.p21, p22 := rp hi h.p22, p23 := rp hi h.p23, p24 := rp hi h.p24, p25 := rp hi h.p25, p26 := rp hi h.p26, p27 := rp hi h.p27, p28 := rp hi h.p28 }⟩
                        · have hi : 11 < d.size := by omega
                          have e10 := h.p10 (hpre _ rfl ⟨10, .data⟩ (by simp) rfl)
                          refine wpOp_plain rfl rfl ?_
                          go_simp
                          exact ⟨_, rfl, { bel := h.bel, siz := (by simpa using h.siz), kp := rk h.kp, k3 := rs h.k3, k9 := rs h.k9, k11 := rs h.k11, k12 := rs h.k12, k13 := rs h.k13, k14 := rs h.k14, q4 := fun hj hk => by obtain ⟨v, h1, h2⟩ := h.q4 (dn_of hi hj (by decide)) (fun q => hk (dn_up q)); exact ⟨v, (set_other (by decide)).trans h1, h2⟩, q13 := fun hj => by obtain ⟨v, h1, h2, h3⟩ := h.q13 (dn_of hi hj (by decide)); exact ⟨v, (set_other (by decide)).trans h1, h2, fun h9 => (set_other (by decide)).trans (h3 (dn_of hi h9 (by decide)))⟩, q30 := fun hj => by obtain ⟨g, cur, h1, h2, h3, h4, h5⟩ := h.q30 (dn_of hi hj (by decide)); exact ⟨g, cur, (set_other (by decide)).trans h1, h2, h3, h4, fun h9 => by obtain ⟨v, e1, e2⟩ := h5 (dn_of hi h9 (by decide)); exact ⟨v, (set_other (by decide)).trans e1, e2⟩⟩, l29 := fun hj => dn_up (h.l29 (dn_of hi hj (by decide))), l31 := fun hj => (fun q => ⟨dn_up q.1, dn_up q.2⟩) (h.l31 (dn_of hi hj (by decide))), p0 := rp hi h.p0, p1 := rp hi h.p1, p2 := rp hi h.p2, p3 := rp hi h.p3, p5 := rp hi h.p5, p6 := rp hi h.p6, p7 := rp hi h.p7, p8 := rp hi h.p8, p9 := rp hi h.p9, p10 := rp hi h.p10, p11 := fun _ => set_same (by have := h.siz; omega), p12 := rp hi h.p12, p14 := rp hi h.p14, p15 := rp hi h.p15, p16 := rp hi h.p16, p17 := rp hi h.p17, p18 := rp hi h.p18, p19 := rp hi h.p19, p20 := rp hi h.p20, p21 := rp hi h.p21, p22 := rp hi h.p22, p23 := rp hi h.p23, p24 := rp hi h.p24, p25 := rp hi h.p25, p26 := rp hi h.p26, p27 := rp hi h.p27, p28 := rp hi h.p28 }⟩
                        · have hi : 12 < d.size := by omega
                          have e11 := h.p11 (hpre _ rfl ⟨11, .data⟩ (by simp) rfl)
                          obtain ⟨k0, k1, k2, k3, k4, k5, k6, k7, k8⟩ := CL.out wc h.bel
                          refine wpOp_plain rfl rfl ?_
                          go_simp
                          exact ⟨_, rfl, { bel := h.bel, siz := (by simpa using h.siz), kp := rk h.kp, k3 := rs h.k3, k9 := rs h.k9, k11 := rs h.k11, k12 := rs h.k12, k13 := rs h.k13, k14 := rs h.k14, q4 := fun hj hk => by obtain ⟨v, h1, h2⟩ := h.q4 (dn_of hi hj (by decide)) (fun q => hk (dn_up q)); exact ⟨v, (set_other (by decide)).trans h1, h2⟩, q13 := fun hj => by obtain ⟨v, h1, h2, h3⟩ := h.q13 (dn_of hi hj (by decide)); exact ⟨v, (set_other (by decide)).trans h1, h2, fun h9 => (set_other (by decide)).trans (h3 (dn_of hi h9 (by decide)))⟩, q30 := fun hj => by obtain ⟨g, cur, h1, h2, h3, h4, h5⟩ := h.q30 (dn_of hi hj (by decide)); exact ⟨g, cur, (set_other (by decide)).trans h1, h2, h3, h4, fun h9 => by obtain ⟨v, e1, e2⟩ := h5 (dn_of hi h9 (by decide)); exact ⟨v, (set_other (by decide)).trans e1, e2⟩⟩, l29 := fun hj => dn_up (h.l29 (dn_of hi hj (by decide))), l31 := fun hj => (fun q => ⟨dn_up q.1, dn_up q.2⟩) (h.l31 (dn_of hi hj (by decide))), p0 := rp hi h.p0, p1 := rp hi h.p1, p2 := rp hi h.p2, p3 := rp hi h.p3, p5 := rp hi h.p5, p6 := rp hi h.p6, p7 := rp hi h.p7, p8 := rp hi h.p8, p9 := rp hi h.p9, p10 := rp hi h.p10, p11 := rp hi h.p11, p12 := fun _ => set_same (by have := h.siz; omega), p14 := rp hi h.p14, p15 := rp hi h.p15, p16 := rp hi h.p16, p17 := rp hi h.p17, p18 := rp hi h.p18, p19 := rp hi h.p19, p20 := rp hi h.p20, p21 := rp hi h.p21, p22 := rp hi h.p22, p23 := rp hi h.p23, p24 := rp hi h.p24, p25 := rp hi h.p25, p26 := rp hi h.p26, p27 := rp hi h.p27, p28 := rp hi h.p28 }⟩
                        · have hi : 13 < d.size := by omega
                          have hnd' := not_dn hi hnd
                          have d4 : dn d 4 := hpre _ rfl ⟨4, .data⟩ (by simp) rfl
                          have d12 : dn d 12 := hpre _ rfl ⟨12, .data⟩ (by simp) rfl
                          have e12 := h.p12 d12
                          obtain ⟨v4, e4, hown⟩ := h.q4 d4 hnd'
                          refine wpOp_plain rfl rfl ?_
                          refine wp_append_rd (enc := enc3) (.tmp 90) (.tmp 98) _ rfl wy.heap.size 29 i3 _ 3 40 len_3 one_3 Tryd.underlying48 hi3 hz3 hs3' hb3' rfl (by decide) v4 1 (enc3 y0) ?ev hown wc.heap.size (.slice Ac nc cc) ys ?ex (HYS.out wc h.bel) ?h63 ?hby h.bel.size ?_
                          case ev => simp [Act.eval, e4]
                          case ex => simp [Act.eval, e12]
                          case h63 => have := HYL.out; simp only [maxLen]; omega
                          case hby => have := HYL.out; omega
                          intro v' w' hown' hg hat
                          rw [HYL.out] at hown'
                          have hg30 : ∀ g cur, wc.heap[g]? = some (.cells cur 51 (0, 0)) → some g ≠ v4.ownBlock := fun g cur hh e => by
                            rcases hown.2 with ⟨e', _⟩ | ⟨g', cap', cur', e', _, hh', _⟩
                            · rw [e'] at e; simp [Value.ownBlock] at e
                            · rw [e'] at e; simp [Value.ownBlock] at e; subst e; rw [hh] at hh'; cases hh'
                          exact ⟨_, rfl, { bel := below_own_grown h.bel hg hown (Nat.le_refl _) h.bel.size, siz := (by simpa using h.siz), kp := rk h.kp, k3 := rs h.k3, k9 := rs h.k9, k11 := rs h.k11, k12 := rs h.k12, k13 := rs h.k13, k14 := rs h.k14, q4 := fun _ hk => absurd (dn_self hi) hk, q13 := fun _ => ⟨v', set_same (by have := h.siz; show 99 < t.size; omega), hown', fun hj => absurd (h.l29 (dn_of hi hj (by decide))) hnd'⟩, q30 := fun hj => by obtain ⟨g, cur, h1, h2, h3, h4, h5⟩ := h.q30 (dn_of hi hj (by decide)); exact ⟨g, cur, (set_other (by decide)).trans h1, h2, (hg.block g (Array.getElem?_eq_some_iff.1 h3).1 (hg30 g cur h3)).trans h3, h4, fun h9 => absurd (h.l29 (h.l31 (dn_of hi h9 (by decide))).2) hnd'⟩, l29 := fun hj => dn_up (h.l29 (dn_of hi hj (by decide))), l31 := fun hj => (fun q => ⟨dn_up q.1, dn_up q.2⟩) (h.l31 (dn_of hi hj (by decide))), p0 := rp hi h.p0, p1 := rp hi h.p1, p2 := rp hi h.p2, p3 := rp hi h.p3, p5 := rp hi h.p5, p6 := rp hi h.p6, p7 := rp hi h.p7, p8 := rp hi h.p8, p9 := rp hi h.p9, p10 := rp hi h.p10, p11 := rp hi h.p11, p12 := rp hi h.p12, p14 := rp hi h.p14, p15 := rp hi h.p15, p16 := rp hi h.p16, p17 := rp hi h.p17, p18 := rp hi h.p18, p19 := rp hi h.p19, p20 := rp hi h.p20, p21 := rp hi h.p21, p22 := rp hi h.p22, p23 := rp hi h.p23, p24 := rp hi h.p24, p25 := rp hi h.p25, p26 := rp hi h.p26, p27 := rp hi h.p27, p28 := rp hi h.p28 }⟩
                        · have hi : 14 < d.size := by omega
                          have q3 := h.k3
                          obtain ⟨k0, k1, k2, k3, k4, k5, k6, k7, k8⟩ := CL.out wc h.bel
                          refine wpOp_plain rfl rfl ?_
                          go_simp
                          exact ⟨_, rfl, { bel := h.bel, siz := (by simpa using h.siz), kp := rk h.kp, k3 := rs h.k3, k9 := rs h.k9, k11 := rs h.k11, k12 := rs h.k12, k13 := rs h.k13, k14 := rs h.k14, q4 := fun hj hk => by obtain ⟨v, h1, h2⟩ := h.q4 (dn_of hi hj (by decide)) (fun q => hk (dn_up q)); exact ⟨v, (set_other (by decide)).trans h1, h2⟩, q13 := fun hj => by obtain ⟨v, h1, h2, h3⟩ := h.q13 (dn_of hi hj (by decide)); exact ⟨v, (set_other (by decide)).trans h1, h2, fun h9 => (set_other (by decide)).trans (h3 (dn_of hi h9 (by decide)))⟩, q30 := fun hj => by obtain ⟨g, cur, h1, h2, h3, h4, h5⟩ := h.q30 (dn_of hi hj (by decide)); exact ⟨g, cur, (set_other (by decide)).trans h1, h2, h3, h4, fun h9 => by obtain ⟨v, e1, e2⟩ := h5 (dn_of hi h9 (by decide)); exact ⟨v, (set_other (by decide)).trans e1, e2⟩⟩, l29 := fun hj => dn_up (h.l29 (dn_of hi hj (by decide))), l31 := fun hj => (fun q => ⟨dn_up q.1, dn_up q.2⟩) (h.l31 (dn_of hi hj (by decide))), p0 := rp hi h.p0, p1 := rp hi h.p1, p2 := rp hi h.p2, p3 := rp hi h.p3, p5 := rp hi h.p5, p6 := rp hi h.p6, p7 := rp hi h.p7, p8 := rp hi h.p8, p9 := rp hi h.p9, p10 := rp hi h.p10, p11 := rp hi h.p11, p12 := rp hi h.p12, p14 := fun _ => set_same (by have := h.siz; omega), p15 := rp hi h.p15, p16 := rp hi h.p16, p17 := rp hi h.p17, p18 := rp hi h.p18, p19 := rp hi h.p19, p20 := rp hi h.p20, p21 := rp hi h.p21, p22 := rp hi h.p22, p23 := rp hi h.p23, p24 := rp hi h.p24, p25 := rp hi h.p25, p26 := rp hi h.p26, p27 := rp hi h.p27, p28 := rp hi h.p28 }⟩
                        · have hi : 15 < d.size := by omega
                          have q12 := h.k12
                          refine wpOp_plain rfl rfl ?_
                          go_simp
                          exact ⟨_, rfl, { bel := h.bel, siz := (by simpa using h.siz), kp := rk h.kp, k3 := rs h.k3, k9 := rs h.k9, k11 := rs h.k11, k12 := rs h.k12, k13 := rs h.k13, k14 := rs h.k14, q4 := fun hj hk => by obtain ⟨v, h1, h2⟩ := h.q4 (dn_of hi hj (by decide)) (fun q => hk (dn_up q)); exact ⟨v, (set_other (by decide)).trans h1, h2⟩, q13 := fun hj => by obtain ⟨v, h1, h2, h3⟩ := h.q13 (dn_of hi hj (by decide)); exact ⟨v, (set_other (by decide)).trans h1, h2, fun h9 => (set_other (by decide)).trans (h3 (dn_of hi h9 (by decide)))⟩, q30 := fun hj => by obtain ⟨g, cur, h1, h2, h3, h4, h5⟩ := h.q30 (dn_of hi hj (by decide)); exact ⟨g, cur, (set_other (by decide)).trans h1, h2, h3, h4, fun h9 => by obtain ⟨v, e1, e2⟩ := h5 (dn_of hi h9 (by decide)); exact ⟨v, (set_other (by decide)).trans e1, e2⟩⟩, l29 := fun hj => dn_up (h.l29 (dn_of hi hj (by decide))), l31 := fun hj => (fun q => ⟨dn_up q.1, dn_up q.2⟩) (h.l31 (dn_of hi hj (by decide))), p0 := rp hi h.p0, p1 := rp hi h.p1, p2 := rp hi h.p2, p3 := rp hi h.p3, p5 := rp hi h.p5, p6 := rp hi h.p6, p7 := rp hi h.p7, p8 := rp hi h.p8, p9 := rp hi h.p9, p10 := rp hi h.p10, p11 := rp hi h.p11, p12 := rp hi h.p12, p14 := rp hi h.p14, p15 := fun _ => set_same (by have := h.siz; omega), p16 := rp hi h.p16, p17 := rp hi h.p17, p18 := rp hi h.p18, p19 := rp hi h.p19, p20 := rp hi h.p20, p21 := rp hi h.p21, p22 := rp hi h.p22, p23 := rp hi h.p23, p24 := rp hi h.p24, p25 := rp hi h.p25, p26 := rp hi h.p26, p27 := rp hi h.p27, p28 := rp hi h.p28 }⟩
                        · have hi : 16 < d.size := by omega
                          have q13 := h.k13
                          refine wpOp_plain rfl rfl ?_
                          go_simp
                          exact ⟨_, rfl, { bel := h.bel, siz := (by simpa using h.siz), kp := rk h.kp, k3 := rs h.k3, k9 := rs h.k9, k11 := rs h.k11, k12 := rs h.k12, k13 := rs h.k13, k14 := rs h.k14, q4 := fun hj hk => by obtain ⟨v, h1, h2⟩ := h.q4 (dn_of hi hj (by decide)) (fun q => hk (dn_up q)); exact ⟨v, (set_other (by decide)).trans h1, h2⟩, q13 := fun hj => by obtain ⟨v, h1, h2, h3⟩ := h.q13 (dn_of hi hj (by decide)); exact ⟨v, (set_other (by decide)).trans h1, h2, fun h9 => (set_other (by decide)).trans (h3 (dn_of hi h9 (by decide)))⟩, q30 := fun hj => by obtain ⟨g, cur, h1, h2, h3, h4, h5⟩ := h.q30 (dn_of hi hj (by decide)); exact ⟨g, cur, (set_other (by decide)).trans h1, h2, h3, h4, fun h9 => by obtain ⟨v, e1, e2⟩ := h5 (dn_of hi h9 (by decide)); exact ⟨v, (set_other (by decide)).trans e1, e2⟩⟩, l29 := fun hj => dn_up (h.l29 (dn_of hi hj (by decide))), l31 := fun hj => (fun q => ⟨dn_up q.1, dn_up q.2⟩) (h.l31 (dn_of hi hj (by decide))), p0 := rp hi h.p0, p1 := rp hi h.p1, p2 := rp hi h.p2, p3 := rp hi h.p3, p5 := rp hi h.p5, p6 := rp hi h.p6, p7 := rp hi h.p7, p8 := rp hi h.p8, p9 := rp hi h.p9, p10 := rp hi h.p10, p11 := rp hi h.p11, p12 := rp hi h.p12, p14 := rp hi h.p14, p15 := rp hi h.p15, p16 := fun _ => set_same (by have := h.siz; omega), p17 := rp hi h.p17, p18 := rp hi h.p18, p19 := rp hi h.p19, p20 := rp hi h.p20, p21 := rp hi h.p21, p22 := rp hi h.p22, p23 := rp hi h.p23, p24 := rp hi h.p24, p25 := rp hi h.p25, p26 := rp hi h.p26, p27 := rp hi h.p27, p28 := rp hi h.p28 }⟩
                        · have hi : 17 < d.size := by omega
                          have e15 := h.p15 (hpre _ rfl ⟨15, .data⟩ (by simp) rfl)
                          have e16 := h.p16 (hpre _ rfl ⟨16, .data⟩ (by simp) rfl)
                          have hx1 : (q : Int) < (nf : Int) := by omega
                          refine wpOp_plain rfl rfl ?_
                          go_simp
                          exact ⟨_, rfl, { bel := h.bel, siz := (by simpa using h.siz), kp := rk h.kp, k3 := rs h.k3, k9 := rs h.k9, k11 := rs h.k11, k12 := rs h.k12, k13 := rs h.k13, k14 := rs h.k14, q4 := fun hj hk => by obtain ⟨v, h1, h2⟩ := h.q4 (dn_of hi hj (by decide)) (fun q => hk (dn_up q)); exact ⟨v, (set_other (by decide)).trans h1, h2⟩, q13 := fun hj => by obtain ⟨v, h1, h2, h3⟩ := h.q13 (dn_of hi hj (by decide)); exact ⟨v, (set_other (by decide)).trans h1, h2, fun h9 => (set_other (by decide)).trans (h3 (dn_of hi h9 (by decide)))⟩, q30 := fun hj => by obtain ⟨g, cur, h1, h2, h3, h4, h5⟩ := h.q30 (dn_of hi hj (by decide)); exact ⟨g, cur, (set_other (by decide)).trans h1, h2, h3, h4, fun h9 => by obtain ⟨v, e1, e2⟩ := h5 (dn_of hi h9 (by decide)); exact ⟨v, (set_other (by decide)).trans e1, e2⟩⟩, l29 := fun hj => dn_up (h.l29 (dn_of hi hj (by decide))), l31 := fun hj => (fun q => ⟨dn_up q.1, dn_up q.2⟩) (h.l31 (dn_of hi hj (by decide))), p0 := rp hi h.p0, p1 := rp hi h.p1, p2 := rp hi h.p2, p3 := rp hi h.p3, p5 := rp hi h.p5, p6 := rp hi h.p6, p7 := rp hi h.p7, p8 := rp hi h.p8, p9 := rp hi h.p9, p10 := rp hi h.p10, p11 := rp hi h.p11, p12 := rp hi h.p12, p14 := rp hi h.p14, p15 := rp hi h.p15, p16 := rp hi h.p16, p17 := fun _ => set_same (by have := h.siz; omega), p18 := rp hi h.p18, p19 := rp hi h.p19, p20 := rp hi h.p20, p21 := rp hi h.p21, p22 := rp hi h.p22, p23 := rp hi h.p23, p24 := rp hi h.p24, p25 := rp hi h.p25, p26 := rp hi h.p26, p27 := rp hi h.p27, p28 := rp hi h.p28 }⟩
                        · have hi : 18 < d.size := by omega
                          have e17 := h.p17 (hpre _ rfl ⟨17, .data⟩ (by simp) rfl)
                          obtain ⟨k0, k1, k2, k3, k4, k5, k6, k7, k8⟩ := CL.out wc h.bel
                          refine wpOp_plain rfl rfl ?_
                          go_simp
                          exact ⟨_, rfl, { bel := h.bel, siz := (by simpa using h.siz), kp := rk h.kp, k3 := rs h.k3, k9 := rs h.k9, k11 := rs h.k11, k12 := rs h.k12, k13 := rs h.k13, k14 := rs h.k14, q4 := fun hj hk => by obtain ⟨v, h1, h2⟩ := h.q4 (dn_of hi hj (by decide)) (fun q => hk (dn_up q)); exact ⟨v, (set_other (by decide)).trans h1, h2⟩, q13 := fun hj => by obtain ⟨v, h1, h2, h3⟩ := h.q13 (dn_of hi hj (by decide)); exact ⟨v, (set_other (by decide)).trans h1, h2, fun h9 => (set_other (by decide)).trans (h3 (dn_of hi h9 (by decide)))⟩, q30 := fun hj => by obtain ⟨g, cur, h1, h2, h3, h4, h5⟩ := h.q30 (dn_of hi hj (by decide)); exact ⟨g, cur, (set_other (by decide)).trans h1, h2, h3, h4, fun h9 => by obtain ⟨v, e1, e2⟩ := h5 (dn_of hi h9 (by decide)); exact ⟨v, (set_other (by decide)).trans e1, e2⟩⟩, l29 := fun hj => dn_up (h.l29 (dn_of hi hj (by decide))), l31 := fun hj => (fun q => ⟨dn_up q.1, dn_up q.2⟩) (h.l31 (dn_of hi hj (by decide))), p0 := rp hi h.p0, p1 := rp hi h.p1, p2 := rp hi h.p2, p3 := rp hi h.p3, p5 := rp hi h.p5, p6 := rp hi h.p6, p7 := rp hi h.p7, p8 := rp hi h.p8, p9 := rp hi h.p9, p10 := rp hi h.p10, p11 := rp hi h.p11, p12 := rp hi h.p12, p14 := rp hi h.p14, p15 := rp hi h.p15, p16 := rp hi h.p16, p17 := rp hi h.p17, p18 := fun _ => set_same (by have := h.siz; omega), p19 := rp hi h.p19, p20 := rp hi h.p20, p21 := rp hi h.p21, p22 := rp hi h.p22, p23 := rp hi h.p23, p24 := rp hi h.p24, p25 := rp hi h.p25, p26 := rp hi h.p26, p27 := rp hi h.p27, p28 := rp hi h.p28 }⟩
                        · have hi : 19 < d.size := by omega
                          have e14 := h.p14 (hpre _ rfl ⟨14, .data⟩ (by simp) rfl)
                          have e18 := h.p18 (hpre _ rfl ⟨18, .data⟩ (by simp) rfl)
                          refine wpOp_plain rfl rfl ?_
                          go_simp
                          refine (HHV.out wc h.bel).mono ?_
                          rintro e1 w1 ⟨rfl, hb⟩
                          exact ⟨_, rfl, { bel := h.bel.trans (hb.mono h.bel.size), siz := (by simpa using h.siz), kp := rk h.kp, k3 := rs h.k3, k9 := rs h.k9, k11 := rs h.k11, k12 := rs h.k12, k13 := rs h.k13, k14 := rs h.k14, q4 := fun hj hk => by obtain ⟨v, h1, h2⟩ := h.q4 (dn_of hi hj (by decide)) (fun q => hk (dn_up q)); exact ⟨v, (set_other (by decide)).trans h1, keep_own h2 hb⟩, q13 := fun hj => by obtain ⟨v, h1, h2, h3⟩ := h.q13 (dn_of hi hj (by decide)); exact ⟨v, (set_other (by decide)).trans h1, keep_own h2 hb, fun h9 => (set_other (by decide)).trans (h3 (dn_of hi h9 (by decide)))⟩, q30 := fun hj => by obtain ⟨g, cur, h1, h2, h3, h4, h5⟩ := h.q30 (dn_of hi hj (by decide)); exact ⟨g, cur, (set_other (by decide)).trans h1, h2, (hb.block g (Array.getElem?_eq_some_iff.1 h3).1).trans h3, h4, fun h9 => by obtain ⟨v, e1, e2⟩ := h5 (dn_of hi h9 (by decide)); exact ⟨v, (set_other (by decide)).trans e1, e2⟩⟩, l29 := fun hj => dn_up (h.l29 (dn_of hi hj (by decide))), l31 := fun hj => (fun q => ⟨dn_up q.1, dn_up q.2⟩) (h.l31 (dn_of hi hj (by decide))), p0 := rp hi h.p0, p1 := rp hi h.p1, p2 := rp hi h.p2, p3 := rp hi h.p3, p5 := rp hi h.p5, p6 := rp hi h.p6, p7 := rp hi h.p7, p8 := rp hi h.p8, p9 := rp hi h.p9, p10 := rp hi h.p10, p11 := rp hi h.p11, p12 := rp hi h.p12, p14 := rp hi h.p14, p15 := rp hi h.p15, p16 := rp hi h.p16, p17 := rp hi h.p17, p18 := rp hi h.p18, p19 := fun _ => set_same (by have := h.siz; omega), p20 := rp hi h.p20, p21 := rp hi h.p21, p22 := rp hi h.p22, p23 := rp hi h.p23, p24 := rp hi h.p24, p25 := rp hi h.p25, p26 := rp hi h.p26, p27 := rp hi h.p27, p28 := rp hi h.p28 }⟩
                        · have hi : 20 < d.size := by omega
                          have q9 := h.k9
                          refine wpOp_plain rfl rfl ?_
                          go_simp
                          exact ⟨_, rfl, { bel := h.bel, siz := (by simpa using h.siz), kp := rk h.kp, k3 := rs h.k3, k9 := rs h.k9, k11 := rs h.k11, k12 := rs h.k12, k13 := rs h.k13, k14 := rs h.k14, q4 := fun hj hk => by obtain ⟨v, h1, h2⟩ := h.q4 (dn_of hi hj (by decide)) (fun q => hk (dn_up q)); exact ⟨v, (set_other (by decide)).trans h1, h2⟩, q13 := fun hj => by obtain ⟨v, h1, h2, h3⟩ := h.q13 (dn_of hi hj (by decide)); exact ⟨v, (set_other (by decide)).trans h1, h2, fun h9 => (set_other (by decide)).trans (h3 (dn_of hi h9 (by decide)))⟩, q30 := fun hj => by obtain ⟨g, cur, h1, h2, h3, h4, h5⟩ := h.q30 (dn_of hi hj (by decide)); exact ⟨g, cur, (set_other (by decide)).trans h1, h2, h3, h4, fun h9 => by obtain ⟨v, e1, e2⟩ := h5 (dn_of hi h9 (by decide)); exact ⟨v, (set_other (by decide)).trans e1, e2⟩⟩, l29 := fun hj => dn_up (h.l29 (dn_of hi hj (by decide))), l31 := fun hj => (fun q => ⟨dn_up q.1, dn_up q.2⟩) (h.l31 (dn_of hi hj (by decide))), p0 := rp hi h.p0, p1 := rp hi h.p1, p2 := rp hi h.p2, p3 := rp hi h.p3, p5 := rp hi h.p5, p6 := rp hi h.p6, p7 := rp hi h.p7, p8 := rp hi h.p8, p9 := rp hi h.p9, p10 := rp hi h.p10, p11 := rp hi h.p11, p12 := rp hi h.p12, p14 := rp hi h.p14, p15 := rp hi h.p15, p16 := rp hi h.p16, p17 := rp hi h.p17, p18 := rp hi h.p18, p19 := rp hi h.p19, p20 := fun _ => set_same (by have := h.siz; omega), p21 := rp hi h.p21, p22 := rp hi h.p22, p23 := rp hi h.p23, p24 := rp hi h.p24, p25 := rp hi h.p25, p26 := rp hi h.p26, p27 := rp hi h.p27, p28 := rp hi h.p28 }⟩
                        · have hi : 21 < d.size := by omega
                          have q11 := h.k11
                          refine wpOp_plain rfl rfl ?_
                          go_simp
                          exact ⟨_, rfl, { bel := h.bel, siz := (by simpa using h.siz), kp := rk h.kp, k3 := rs h.k3, k9 := rs h.k9, k11 := rs h.k11, k12 := rs h.k12, k13 := rs h.k13, k14 := rs h.k14, q4 := fun hj hk => by obtain ⟨v, h1, h2⟩ := h.q4 (dn_of hi hj (by decide)) (fun q => hk (dn_up q)); exact ⟨v, (set_other (by decide)).trans h1, h2⟩, q13 := fun hj => by obtain ⟨v, h1, h2, h3⟩ := h.q13 (dn_of hi hj (by decide)); exact ⟨v, (set_other (by decide)).trans h1, h2, fun h9 => (set_other (by decide)).trans (h3 (dn_of hi h9 (by decide)))⟩, q30 := fun hj => by obtain ⟨g, cur, h1, h2, h3, h4, h5⟩ := h.q30 (dn_of hi hj (by decide)); exact ⟨g, cur, (set_other (by decide)).trans h1, h2, h3, h4, fun h9 => by obtain ⟨v, e1, e2⟩ := h5 (dn_of hi h9 (by decide)); exact ⟨v, (set_other (by decide)).trans e1, e2⟩⟩, l29 := fun hj => dn_up (h.l29 (dn_of hi hj (by decide))), l31 := fun hj => (fun q => ⟨dn_up q.1, dn_up q.2⟩) (h.l31 (dn_of hi hj (by decide))), p0 := rp hi h.p0, p1 := rp hi h.p1, p2 := rp hi h.p2, p3 := rp hi h.p3, p5 := rp hi h.p5, p6 := rp hi h.p6, p7 := rp hi h.p7, p8 := rp hi h.p8, p9 := rp hi h.p9, p10 := rp hi h.p10, p11 := rp hi h.p11, p12 := rp hi h.p12, p14 := rp hi h.p14, p15 := rp hi h.p15, p16 := rp hi h.p16, p17 := rp hi h.p17, p18 := rp hi h.p18, p19 := rp hi h.p19, p20 := rp hi h.p20, p21 := fun _ => set_same (by have := h.siz; omega), p22 := rp hi h.p22, p23 := rp hi h.p23, p24 := rp hi h.p24, p25 := rp hi h.p25, p26 := rp hi h.p26, p27 := rp hi h.p27, p28 := rp hi h.p28 }⟩
                        · have hi : 22 < d.size := by omega
                          have e20 := h.p20 (hpre _ rfl ⟨20, .data⟩ (by simp) rfl)
                          have e21 := h.p21 (hpre _ rfl ⟨21, .data⟩ (by simp) rfl)
                          have hx1 : (tp : Int) < (s.size : Int) + 1 := by omega
                          refine wpOp_plain rfl rfl ?_
                          go_simp
                          exact ⟨_, rfl, { bel := h.bel, siz := (by simpa using h.siz), kp := rk h.kp, k3 := rs h.k3, k9 := rs h.k9, k11 := rs h.k11, k12 := rs h.k12, k13 := rs h.k13, k14 := rs h.k14, q4 := fun hj hk => by obtain ⟨v, h1, h2⟩ := h.q4 (dn_of hi hj (by decide)) (fun q => hk (dn_up q)); exact ⟨v, (set_other (by decide)).trans h1, h2⟩, q13 := fun hj => by obtain ⟨v, h1, h2, h3⟩ := h.q13 (dn_of hi hj (by decide)); exact ⟨v, (set_other (by decide)).trans h1, h2, fun h9 => (set_other (by decide)).trans (h3 (dn_of hi h9 (by decide)))⟩, q30 := fun hj => by obtain ⟨g, cur, h1, h2, h3, h4, h5⟩ := h.q30 (dn_of hi hj (by decide)); exact ⟨g, cur, (set_other (by decide)).trans h1, h2, h3, h4, fun h9 => by obtain ⟨v, e1, e2⟩ := h5 (dn_of hi h9 (by decide)); exact ⟨v, (set_other (by decide)).trans e1, e2⟩⟩, l29 := fun hj => dn_up (h.l29 (dn_of hi hj (by decide))), l31 := fun hj => (fun q => ⟨dn_up q.1, dn_up q.2⟩) (h.l31 (dn_of hi hj (by decide))), p0 := rp hi h.p0, p1 := rp hi h.p1, p2 := rp hi h.p2, p3 := rp hi h.p3, p5 := rp hi h.p5, p6 := rp hi h.p6, p7 := rp hi h.p7, p8 := rp hi h.p8, p9 := rp hi h.p9, p10 := rp hi h.p10, p11 := rp hi h.p11, p12 := rp hi h.p12, p14 := rp hi h.p14, p15 := rp hi h.p15, p16 := rp hi h.p16, p17 := rp hi h.p17, p18 := rp hi h.p18, p19 := rp hi h.p19, p20 := rp hi h.p20, p21 := rp hi h.p21, p22 := fun _ => set_same (by have := h.siz; omega), p23 := rp hi h.p23, p24 := rp hi h.p24, p25 := rp hi h.p25, p26 := rp hi h.p26, p27 := rp hi h.p27, p28 := rp hi h.p28 }⟩
                        · have hi : 23 < d.size := by omega
                          have e22 := h.p22 (hpre _ rfl ⟨22, .data⟩ (by simp) rfl)
                          obtain ⟨k0, k1, k2, k3, k4, k5, k6, k7, k8⟩ := CL.out wc h.bel
                          refine wpOp_plain rfl rfl ?_
                          go_simp
                          exact ⟨_, rfl, { bel := h.bel, siz := (by simpa using h.siz), kp := rk h.kp, k3 := rs h.k3, k9 := rs h.k9, k11 := rs h.k11, k12 := rs h.k12, k13 := rs h.k13, k14 := rs h.k14, q4 := fun hj hk => by obtain ⟨v, h1, h2⟩ := h.q4 (dn_of hi hj (by decide)) (fun q => hk (dn_up q)); exact ⟨v, (set_other (by decide)).trans h1, h2⟩, q13 := fun hj => by obtain ⟨v, h1, h2, h3⟩ := h.q13 (dn_of hi hj (by decide)); exact ⟨v, (set_other (by decide)).trans h1, h2, fun h9 => (set_other (by decide)).trans (h3 (dn_of hi h9 (by decide)))⟩, q30 := fun hj => by obtain ⟨g, cur, h1, h2, h3, h4, h5⟩ := h.q30 (dn_of hi hj (by decide)); exact ⟨g, cur, (set_other (by decide)).trans h1, h2, h3, h4, fun h9 => by obtain ⟨v, e1, e2⟩ := h5 (dn_of hi h9 (by decide)); exact ⟨v, (set_other (by decide)).trans e1, e2⟩⟩, l29 := fun hj => dn_up (h.l29 (dn_of hi hj (by decide))), l31 := fun hj => (fun q => ⟨dn_up q.1, dn_up q.2⟩) (h.l31 (dn_of hi hj (by decide))), p0 := rp hi h.p0, p1 := rp hi h.p1, p2 := rp hi h.p2, p3 := rp hi h.p3, p5 := rp hi h.p5, p6 := rp hi h.p6, p7 := rp hi h.p7, p8 := rp hi h.p8, p9 := rp hi h.p9, p10 := rp hi h.p10, p11 := rp hi h.p11, p12 := rp hi h.p12, p14 := rp hi h.p14, p15 := rp hi h.p15, p16 := rp hi h.p16, p17 := rp hi h.p17, p18 := rp hi h.p18, p19 := rp hi h.p19, p20 := rp hi h.p20, p21 := rp hi h.p21, p22 := rp hi h.p22, p23 := fun _ => set_same (by have := h.siz; omega), p24 := rp hi h.p24, p25 := rp hi h.p25, p26 := rp hi h.p26, p27 := rp hi h.p27, p28 := rp hi h.p28 }⟩
                        · have hi : 24 < d.size := by omega
                          have q14 := h.k14
                          refine wpOp_plain rfl rfl ?_
                          go_simp
                          exact ⟨_, rfl, { bel := h.bel, siz := (by simpa using h.siz), kp := rk h.kp, k3 := rs h.k3, k9 := rs h.k9, k11 := rs h.k11, k12 := rs h.k12, k13 := rs h.k13, k14 := rs h.k14, q4 := fun hj hk => by obtain ⟨v, h1, h2⟩ := h.q4 (dn_of hi hj (by decide)) (fun q => hk (dn_up q)); exact ⟨v, (set_other (by decide)).trans h1, h2⟩, q13 := fun hj => by obtain ⟨v, h1, h2, h3⟩ := h.q13 (dn_of hi hj (by decide)); exact ⟨v, (set_other (by decide)).trans h1, h2, fun h9 => (set_other (by decide)).trans (h3 (dn_of hi h9 (by decide)))⟩, q30 := fun hj => by obtain ⟨g, cur, h1, h2, h3, h4, h5⟩ := h.q30 (dn_of hi hj (by decide)); exact ⟨g, cur, (set_other (by decide)).trans h1, h2, h3, h4, fun h9 => by obtain ⟨v, e1, e2⟩ := h5 (dn_of hi h9 (by decide)); exact ⟨v, (set_other (by decide)).trans e1, e2⟩⟩, l29 := fun hj => dn_up (h.l29 (dn_of hi hj (by decide))), l31 := fun hj => (fun q => ⟨dn_up q.1, dn_up q.2⟩) (h.l31 (dn_of hi hj (by decide))), p0 := rp hi h.p0, p1 := rp hi h.p1, p2 := rp hi h.p2, p3 := rp hi h.p3, p5 := rp hi h.p5, p6 := rp hi h.p6, p7 := rp hi h.p7, p8 := rp hi h.p8, p9 := rp hi h.p9, p10 := rp hi h.p10, p11 := rp hi h.p11, p12 := rp hi h.p12, p14 := rp hi h.p14, p15 := rp hi h.p15, p16 := rp hi h.p16, p17 := rp hi h.p17, p18 := rp hi h.p18, p19 := rp hi h.p19, p20 := rp hi h.p20, p21 := rp hi h.p21, p22 := rp hi h.p22, p23 := rp hi h.p23, p24 := fun _ => set_same (by have := h.siz; omega), p25 := rp hi h.p25, p26 := rp hi h.p26, p27 := rp hi h.p27, p28 := rp hi h.p28 }⟩
                        · have hi : 25 < d.size := by omega
                          have e23 := h.p23 (hpre _ rfl ⟨23, .data⟩ (by simp) rfl)
                          have e24 := h.p24 (hpre _ rfl ⟨24, .data⟩ (by simp) rfl)
                          have hx1 : (r : Int) < (nl : Int) := by omega
                          refine wpOp_plain rfl rfl ?_
                          go_simp
                          exact ⟨_, rfl, { bel := h.bel, siz := (by simpa using h.siz), kp := rk h.kp, k3 := rs h.k3, k9 := rs h.k9, k11 := rs h.k11, k12 := rs h.k12, k13 := rs h.k13, k14 := rs h.k14, q4 := fun hj hk => by obtain ⟨v, h1, h2⟩ := h.q4 (dn_of hi hj (by decide)) (fun q => hk (dn_up q)); exact ⟨v, (set_other (by decide)).trans h1, h2⟩, q13 := fun hj => by obtain ⟨v, h1, h2, h3⟩ := h.q13 (dn_of hi hj (by decide)); exact ⟨v, (set_other (by decide)).trans h1, h2, fun h9 => (set_other (by decide)).trans (h3 (dn_of hi h9 (by decide)))⟩, q30 := fun hj => by obtain ⟨g, cur, h1, h2, h3, h4, h5⟩ := h.q30 (dn_of hi hj (by decide)); exact ⟨g, cur, (set_other (by decide)).trans h1, h2, h3, h4, fun h9 => by obtain ⟨v, e1, e2⟩ := h5 (dn_of hi h9 (by decide)); exact ⟨v, (set_other (by decide)).trans e1, e2⟩⟩, l29 := fun hj => dn_up (h.l29 (dn_of hi hj (by decide))), l31 := fun hj => (fun q => ⟨dn_up q.1, dn_up q.2⟩) (h.l31 (dn_of hi hj (by decide))), p0 := rp hi h.p0, p1 := rp hi h.p1, p2 := rp hi h.p2, p3 := rp hi h.p3, p5 := rp hi h.p5, p6 := rp hi h.p6, p7 := rp hi h.p7, p8 := rp hi h.p8, p9 := rp hi h.p9, p10 := rp hi h.p10, p11 := rp hi h.p11, p12 := rp hi h.p12, p14 := rp hi h.p14, p15 := rp hi h.p15, p16 := rp hi h.p16, p17 := rp hi h.p17, p18 := rp hi h.p18, p19 := rp hi h.p19, p20 := rp hi h.p20, p21 := rp hi h.p21, p22 := rp hi h.p22, p23 := rp hi h.p23, p24 := rp hi h.p24, p25 := fun _ => set_same (by have := h.siz; omega), p26 := rp hi h.p26, p27 := rp hi h.p27, p28 := rp hi h.p28 }⟩
                        · have hi : 26 < d.size := by omega
                          have e25 := h.p25 (hpre _ rfl ⟨25, .data⟩ (by simp) rfl)
                          refine wpOp_plain rfl rfl ?_
                          go_simp
                          exact ⟨_, rfl, { bel := h.bel, siz := (by simpa using h.siz), kp := rk h.kp, k3 := rs h.k3, k9 := rs h.k9, k11 := rs h.k11, k12 := rs h.k12, k13 := rs h.k13, k14 := rs h.k14, q4 := fun hj hk => by obtain ⟨v, h1, h2⟩ := h.q4 (dn_of hi hj (by decide)) (fun q => hk (dn_up q)); exact ⟨v, (set_other (by decide)).trans h1, h2⟩, q13 := fun hj => by obtain ⟨v, h1, h2, h3⟩ := h.q13 (dn_of hi hj (by decide)); exact ⟨v, (set_other (by decide)).trans h1, h2, fun h9 => (set_other (by decide)).trans (h3 (dn_of hi h9 (by decide)))⟩, q30 := fun hj => by obtain ⟨g, cur, h1, h2, h3, h4, h5⟩ := h.q30 (dn_of hi hj (by decide)); exact ⟨g, cur, (set_other (by decide)).trans h1, h2, h3, h4, fun h9 => by obtain ⟨v, e1, e2⟩ := h5 (dn_of hi h9 (by decide)); exact ⟨v, (set_other (by decide)).trans e1, e2⟩⟩, l29 := fun hj => dn_up (h.l29 (dn_of hi hj (by decide))), l31 := fun hj => (fun q => ⟨dn_up q.1, dn_up q.2⟩) (h.l31 (dn_of hi hj (by decide))), p0 := rp hi h.p0, p1 := rp hi h.p1, p2 := rp hi h.p2, p3 := rp hi h.p3, p5 := rp hi h.p5, p6 := rp hi h.p6, p7 := rp hi h.p7, p8 := rp hi h.p8, p9 := rp hi h.p9, p10 := rp hi h.p10, p11 := rp hi h.p11, p12 := rp hi h.p12, p14 := rp hi h.p14, p15 := rp hi h.p15, p16 := rp hi h.p16, p17 := rp hi h.p17, p18 := rp hi h.p18, p19 := rp hi h.p19, p20 := rp hi h.p20, p21 := rp hi h.p21, p22 := rp hi h.p22, p23 := rp hi h.p23, p24 := rp hi h.p24, p25 := rp hi h.p25, p26 := fun _ => set_same (by have := h.siz; omega), p27 := rp hi h.p27, p28 := rp hi h.p28 }⟩
                        · have hi : 27 < d.size := by omega
                          have e26 := h.p26 (hpre _ rfl ⟨26, .data⟩ (by simp) rfl)
                          obtain ⟨k0, k1, k2, k3, k4, k5, k6, k7, k8⟩ := CL.out wc h.bel
                          refine wpOp_plain rfl rfl ?_
                          go_simp
                          exact ⟨_, rfl, { bel := h.bel, siz := (by simpa using h.siz), kp := rk h.kp, k3 := rs h.k3, k9 := rs h.k9, k11 := rs h.k11, k12 := rs h.k12, k13 := rs h.k13, k14 := rs h.k14, q4 := fun hj hk => by obtain ⟨v, h1, h2⟩ := h.q4 (dn_of hi hj (by decide)) (fun q => hk (dn_up q)); exact ⟨v, (set_other (by decide)).trans h1, h2⟩, q13 := fun hj => by obtain ⟨v, h1, h2, h3⟩ := h.q13 (dn_of hi hj (by decide)); exact ⟨v, (set_other (by decide)).trans h1, h2, fun h9 => (set_other (by decide)).trans (h3 (dn_of hi h9 (by decide)))⟩, q30 := fun hj => by obtain ⟨g, cur, h1, h2, h3, h4, h5⟩ := h.q30 (dn_of hi hj (by decide)); exact ⟨g, cur, (set_other (by decide)).trans h1, h2, h3, h4, fun h9 => by obtain ⟨v, e1, e2⟩ := h5 (dn_of hi h9 (by decide)); exact ⟨v, (set_other (by decide)).trans e1, e2⟩⟩, l29 := fun hj => dn_up (h.l29 (dn_of hi hj (by decide))), l31 := fun hj => (fun q => ⟨dn_up q.1, dn_up q.2⟩) (h.l31 (dn_of hi hj (by decide))), p0 := rp hi h.p0, p1 := rp hi h.p1, p2 := rp hi h.p2, p3 := rp hi h.p3, p5 := rp hi h.p5, p6 := rp hi h.p6, p7 := rp hi h.p7, p8 := rp hi h.p8, p9 := rp hi h.p9, p10 := rp hi h.p10, p11 := rp hi h.p11, p12 := rp hi h.p12, p14 := rp hi h.p14, p15 := rp hi h.p15, p16 := rp hi h.p16, p17 := rp hi h.p17, p18 := rp hi h.p18, p19 := rp hi h.p19, p20 := rp hi h.p20, p21 := rp hi h.p21, p22 := rp hi h.p22, p23 := rp hi h.p23, p24 := rp hi h.p24, p25 := rp hi h.p25, p26 := rp hi h.p26, p27 := fun _ => set_same (by have := h.siz; omega), p28 := rp hi h.p28 }⟩
                        · have hi : 28 < d.size := by omega
                          have e19 := h.p19 (hpre _ rfl ⟨19, .data⟩ (by simp) rfl)
                          have e27 := h.p27 (hpre _ rfl ⟨27, .data⟩ (by simp) rfl)
                          refine wpOp_plain rfl rfl ?_
                          go_simp
                          simp (disch := omega) only [IntWalk.i64_in]
                          exact ⟨_, rfl, { bel := h.bel, siz := (by simpa using h.siz), kp := rk h.kp, k3 := rs h.k3, k9 := rs h.k9, k11 := rs h.k11, k12 := rs h.k12, k13 := rs h.k13, k14 := rs h.k14, q4 := fun hj hk => by obtain ⟨v, h1, h2⟩ := h.q4 (dn_of hi hj (by decide)) (fun q => hk (dn_up q)); exact ⟨v, (set_other (by decide)).trans h1, h2⟩, q13 := fun hj => by obtain ⟨v, h1, h2, h3⟩ := h.q13 (dn_of hi hj (by decide)); exact ⟨v, (set_other (by decide)).trans h1, h2, fun h9 => (set_other (by decide)).trans (h3 (dn_of hi h9 (by decide)))⟩, q30 := fun hj => by obtain ⟨g, cur, h1, h2, h3, h4, h5⟩ := h.q30 (dn_of hi hj (by decide)); exact ⟨g, cur, (set_other (by decide)).trans h1, h2, h3, h4, fun h9 => by obtain ⟨v, e1, e2⟩ := h5 (dn_of hi h9 (by decide)); exact ⟨v, (set_other (by decide)).trans e1, e2⟩⟩, l29 := fun hj => dn_up (h.l29 (dn_of hi hj (by decide))), l31 := fun hj => (fun q => ⟨dn_up q.1, dn_up q.2⟩) (h.l31 (dn_of hi hj (by decide))), p0 := rp hi h.p0, p1 := rp hi h.p1, p2 := rp hi h.p2, p3 := rp hi h.p3, p5 := rp hi h.p5, p6 := rp hi h.p6, p7 := rp hi h.p7, p8 := rp hi h.p8, p9 := rp hi h.p9, p10 := rp hi h.p10, p11 := rp hi h.p11, p12 := rp hi h.p12, p14 := rp hi h.p14, p15 := rp hi h.p15, p16 := rp hi h.p16, p17 := rp hi h.p17, p18 := rp hi h.p18, p19 := rp hi h.p19, p20 := rp hi h.p20, p21 := rp hi h.p21, p22 := rp hi h.p22, p23 := rp hi h.p23, p24 := rp hi h.p24, p25 := rp hi h.p25, p26 := rp hi h.p26, p27 := rp hi h.p27, p28 := fun _ => set_same (by have := h.siz; omega) }⟩
                        · have hi : 29 < d.size := by omega
                          have hnd' := not_dn hi hnd
                          have d13 : dn d 13 := hpre _ rfl ⟨13, .data⟩ (by simp) rfl
                          have d28 : dn d 28 := hpre _ rfl ⟨28, .data⟩ (by simp) rfl
                          have e28 := h.p28 d28
                          obtain ⟨v9, e13, hown, -⟩ := h.q13 d13
                          obtain ⟨A9, c9, rfl⟩ := own_form hown
                          refine wpOp_plain rfl rfl ?_
                          go_simp
                          exact ⟨_, rfl, { bel := h.bel, siz := (by simpa using h.siz), kp := rk h.kp, k3 := rs h.k3, k9 := rs h.k9, k11 := rs h.k11, k12 := rs h.k12, k13 := rs h.k13, k14 := rs h.k14, q4 := fun hj hk => by obtain ⟨v, h1, h2⟩ := h.q4 (dn_of hi hj (by decide)) (fun q => hk (dn_up q)); exact ⟨v, (set_other (by decide)).trans h1, h2⟩, q13 := fun _ => ⟨_, (set_other (by decide)).trans e13, hown, fun _ => set_same (by have := h.siz; omega)⟩, q30 := fun hj => by obtain ⟨g, cur, h1, h2, h3, h4, h5⟩ := h.q30 (dn_of hi hj (by decide)); exact ⟨g, cur, (set_other (by decide)).trans h1, h2, h3, h4, fun h9 => by obtain ⟨v, e1, e2⟩ := h5 (dn_of hi h9 (by decide)); exact ⟨v, (set_other (by decide)).trans e1, e2⟩⟩, l29 := fun _ => dn_up d13, l31 := fun hj => (fun q => ⟨dn_up q.1, dn_up q.2⟩) (h.l31 (dn_of hi hj (by decide))), p0 := rp hi h.p0, p1 := rp hi h.p1, p2 := rp hi h.p2, p3 := rp hi h.p3, p5 := rp hi h.p5, p6 := rp hi h.p6, p7 := rp hi h.p7, p8 := rp hi h.p8, p9 := rp hi h.p9, p10 := rp hi h.p10, p11 := rp hi h.p11, p12 := rp hi h.p12, p14 := rp hi h.p14, p15 := rp hi h.p15, p16 := rp hi h.p16, p17 := rp hi h.p17, p18 := rp hi h.p18, p19 := rp hi h.p19, p20 := rp hi h.p20, p21 := rp hi h.p21, p22 := rp hi h.p22, p23 := rp hi h.p23, p24 := rp hi h.p24, p25 := rp hi h.p25, p26 := rp hi h.p26, p27 := rp hi h.p27, p28 := rp hi h.p28 }⟩
                        · have hi : 30 < d.size := by omega
                          have hnd' := not_dn hi hnd
                          have hb : Below wc.heap.size wc (wc.alloc (.cells #[.slice none 0 0, .int .i64 0] 51)) := (Below.refl _ _).alloc (Nat.le_refl _) _
                          refine wpOp_plain rfl rfl ?_
                          go_simp
                          exact ⟨_, rfl, { bel := h.bel.trans (hb.mono h.bel.size), siz := (by simpa using h.siz), kp := rk h.kp, k3 := rs h.k3, k9 := rs h.k9, k11 := rs h.k11, k12 := rs h.k12, k13 := rs h.k13, k14 := rs h.k14, q4 := fun hj hk => by obtain ⟨v, h1, h2⟩ := h.q4 (dn_of hi hj (by decide)) (fun q => hk (dn_up q)); exact ⟨v, (set_other (by decide)).trans h1, keep_own h2 hb⟩, q13 := fun hj => by obtain ⟨v, h1, h2, h3⟩ := h.q13 (dn_of hi hj (by decide)); exact ⟨v, (set_other (by decide)).trans h1, keep_own h2 hb, fun h9 => (set_other (by decide)).trans (h3 (dn_of hi h9 (by decide)))⟩, q30 := fun _ => ⟨wc.heap.size, _, set_same (by have := h.siz; omega), h.bel.size, heap_alloc_new _ _, rfl, fun h9 => absurd (h.l31 (dn_of hi h9 (by decide))).1 hnd'⟩, l29 := fun hj => dn_up (h.l29 (dn_of hi hj (by decide))), l31 := fun hj => (fun q => ⟨dn_up q.1, dn_up q.2⟩) (h.l31 (dn_of hi hj (by decide))), p0 := rp hi h.p0, p1 := rp hi h.p1, p2 := rp hi h.p2, p3 := rp hi h.p3, p5 := rp hi h.p5, p6 := rp hi h.p6, p7 := rp hi h.p7, p8 := rp hi h.p8, p9 := rp hi h.p9, p10 := rp hi h.p10, p11 := rp hi h.p11, p12 := rp hi h.p12, p14 := rp hi h.p14, p15 := rp hi h.p15, p16 := rp hi h.p16, p17 := rp hi h.p17, p18 := rp hi h.p18, p19 := rp hi h.p19, p20 := rp hi h.p20, p21 := rp hi h.p21, p22 := rp hi h.p22, p23 := rp hi h.p23, p24 := rp hi h.p24, p25 := rp hi h.p25, p26 := rp hi h.p26, p27 := rp hi h.p27, p28 := rp hi h.p28 }⟩
                        · have hi : 31 < d.size := by omega
                          have hnd' := not_dn hi hnd
                          have d30 : dn d 30 := hpre _ rfl ⟨30, .data⟩ (by simp) rfl
                          have d29 : dn d 29 := hpre _ rfl ⟨29, .data⟩ (by simp) rfl
                          obtain ⟨g, cur, g1, g2, g3, g4, -⟩ := h.q30 d30
                          obtain ⟨v9, e13, hown, h99⟩ := h.q13 (h.l29 d29)
                          have e29 := h99 d29
                          obtain ⟨A9, c9, rfl⟩ := own_form hown
                          have z0 : wc.frozen? ⟨g, 0, none⟩ = false := by simp [World.frozen?, g3]
                          have z1 : wc.frozen? ⟨g, 1, none⟩ = false := by simp [World.frozen?, g3]
                          have y0' : ∃ u0, wc.cell? ⟨g, 0, none⟩ = some u0 := by simp [World.cell?, g3, g4]
                          have y1' : ∃ u1, wc.cell? ⟨g, 1, none⟩ = some u1 := by simp [World.cell?, g3, g4]
                          obtain ⟨u0, r0⟩ := y0'
                          obtain ⟨u1, r1⟩ := y1'
                          have hx9 : ((wc.setCell ⟨g, 0, none⟩ (.slice A9 (1 + nc) c9)).setCell ⟨g, 1, none⟩ (.int .i64 (Lx.heavyV x f + c.2))).heap[g]? = some (.cells #[.slice A9 (1 + nc) c9, .int .i64 (Lx.heavyV x f + c.2)] 51 (0, 0)) := by
                            simp only [World.setCell, Array.getElem?_modify, g3]
                            obtain ⟨cl⟩ := cur
                            match cl, g4 with
                            | [p0, p1], _ => simp
                          have hgr : wc.grownBy ((wc.setCell ⟨g, 0, none⟩ (.slice A9 (1 + nc) c9)).setCell ⟨g, 1, none⟩ (.int .i64 (Lx.heavyV x f + c.2))) (some g) := ⟨rfl, rfl, rfl, by simp [World.setCell], fun b _ hb => by simp [World.setCell, Array.getElem?_modify, Ne.symm (fun e => hb (by rw [e]) : b ≠ g)]⟩
                          have hne9 : (Value.slice A9 (1 + nc) c9).ownBlock = none ∨ (Value.slice A9 (1 + nc) c9).ownBlock ≠ some g := by
                            rcases hown.2 with ⟨e', _⟩ | ⟨g', cap', cur', e', _, hh', _⟩
                            · left; rw [e']; rfl
                            · right; rw [e']; intro e; simp [Value.ownBlock] at e; subst e; rw [g3] at hh'; cases hh'
                          have hb9 : Below wy.heap.size wy ((wc.setCell ⟨g, 0, none⟩ (.slice A9 (1 + nc) c9)).setCell ⟨g, 1, none⟩ (.int .i64 (Lx.heavyV x f + c.2))) := (h.bel.setCell (by show wy.heap.size ≤ g; exact g2) _).setCell (by show wy.heap.size ≤ g; exact g2) _
                          refine wpOp_plain rfl rfl ?_
                          go_simp
                          exact ⟨_, rfl, { bel := hb9, siz := h.siz, kp := h.kp, k3 := h.k3, k9 := h.k9, k11 := h.k11, k12 := h.k12, k13 := h.k13, k14 := h.k14, q4 := fun _ hk => absurd (dn_up (h.l29 d29)) hk, q13 := fun _ => ⟨_, e13, hown.kept hgr hne9, fun _ => e29⟩, q30 := fun _ => ⟨g, _, g1, g2, hx9, rfl, fun _ => ⟨_, e13, rfl⟩⟩, l29 := fun hj => dn_up (h.l29 (dn_of hi hj (by decide))), l31 := fun _ => ⟨dn_up d30, dn_up d29⟩, p0 := rn hi h.p0, p1 := rn hi h.p1, p2 := rn hi h.p2, p3 := rn hi h.p3, p5 := rn hi h.p5, p6 := rn hi h.p6, p7 := rn hi h.p7, p8 := rn hi h.p8, p9 := rn hi h.p9, p10 := rn hi h.p10, p11 := rn hi h.p11, p12 := rn hi h.p12, p14 := rn hi h.p14, p15 := rn hi h.p15, p16 := rn hi h.p16, p17 := rn hi h.p17, p18 := rn hi h.p18, p19 := rn hi h.p19, p20 := rn hi h.p20, p21 := rn hi h.p21, p22 := rn hi h.p22, p23 := rn hi h.p23, p24 := rn hi h.p24, p25 := rn hi h.p25, p26 := rn hi h.p26, p27 := rn hi h.p27, p28 := rn hi h.p28 }⟩
                      case gendb =>
                        intro d a wc hd hI hall
                        obtain ⟨t, rfl, h⟩ := hI
                        have hdn : ∀ j, j < 32 → dn d j := fun j hj => dn_all hd hall hj
                        have hd : ∀ j, (_ : j < 32 := by decide) → dn d j := fun j hj => hdn j hj
                        obtain ⟨t15, x15⟩ : ∃ v, t[15]? = some v := ⟨_, Array.getElem?_eq_getElem (by have := h.siz; omega)⟩
                        obtain ⟨t90, x90⟩ : ∃ v, t[90]? = some v := ⟨_, Array.getElem?_eq_getElem (by have := h.siz; omega)⟩
                        obtain ⟨t99, x99⟩ : ∃ v, t[99]? = some v := ⟨_, Array.getElem?_eq_getElem (by have := h.siz; omega)⟩
                        obtain ⟨t115, x115⟩ : ∃ v, t[115]? = some v := ⟨_, Array.getElem?_eq_getElem (by have := h.siz; omega)⟩
                        obtain ⟨gx, cur9, e, hgx, hx9, -, hcur⟩ := h.q30 (hdn 30 (by omega)); obtain rfl : t15 = .pointer (some ⟨gx, 0, none⟩) := by rw [x15] at e; simpa using e
                        obtain ⟨v9, e9, hcur9⟩ := hcur (hdn 31 (by omega))
                        obtain ⟨v9', e9', hown9, -⟩ := h.q13 (hdn 13 (by omega))
                        obtain rfl : v9 = v9' := by rw [e9] at e9'; cases e9'; rfl
                        have hfe := frame_eq [(15, _), (86, _), (87, _), (88, _), (89, _), (90, _), (91, _), (92, _), (93, _), (94, _), (95, _), (96, _), (97, _), (98, _), (99, _), (100, _), (101, _), (102, _), (103, _), (104, _), (105, _), (106, _), (107, _), (108, _), (109, _), (110, _), (111, _), (112, _), (113, _), (114, _), (115, _)] (h.siz.trans rfl) h.kp rfl ⟨x15, h.p0 (hd 0), h.p1 (hd 1), h.p2 (hd 2), h.p3 (hd 3), x90, h.p5 (hd 5), h.p6 (hd 6), h.p7 (hd 7), h.p8 (hd 8), h.p9 (hd 9), h.p10 (hd 10), h.p11 (hd 11), h.p12 (hd 12), x99, h.p14 (hd 14), h.p15 (hd 15), h.p16 (hd 16), h.p17 (hd 17), h.p18 (hd 18), h.p19 (hd 19), h.p20 (hd 20), h.p21 (hd 21), h.p22 (hd 22), h.p23 (hd 23), h.p24 (hd 24), h.p25 (hd 25), h.p26 (hd 26), h.p27 (hd 27), h.p28 (hd 28), x115, trivial⟩
                        simp only [List.foldl_cons, List.foldl_nil, List.setIfInBounds_toArray, List.set_cons_succ, List.set_cons_zero] at hfe
                        have hbc := h.bel
                        subst hfe
                        clear h hdn hd hall
                        rename World => wy9
                        obtain ⟨A9, c9, rfl⟩ := own_form hown9
                        subst hcur9
                        have hsy := hbc.size
                        have HBB := Lib.hid hbc
                        obtain ⟨Q9, hQ9⟩ : ∃ Q9 : Nat → Prop, Q9 = (fun g => g < FB ∨ FE ≤ g) := ⟨_, rfl⟩
                        obtain ⟨T9, hT9⟩ : ∃ T9 : Nat → List Lx.Cut, T9 = (Lx.rtabT x most (Lx.formsR x s) s.size k) := ⟨_, rfl⟩
                        obtain ⟨wt9, hwt9⟩ : ∃ wt9 : Int, wt9 = Lx.heavyV x f + c.2 := ⟨_, rfl⟩
                        obtain ⟨l9, hl9⟩ : ∃ l9, l9 = Lx.putC most (Lx.lC x most (Lx.formsR x s) s.size k b q f r) (Lx.pushC x f c) := ⟨_, rfl⟩
                        obtain ⟨Av, cv, rfl⟩ := HOVO.out.form
                        obtain ⟨lo, hlo⟩ : ∃ lo, lo = ((Lx.lC x most (Lx.formsR x s) s.size k b q f r)).length := ⟨_, rfl⟩
                        have HTC : Hid (TabC wy9 G s.size S i Q9 T9 (Lx.lC x most (Lx.formsR x s) s.size k b q f r)) := Lib.hid (by rw [hQ9, hT9]; exact HTY.out.kept hbc hSY)
                        have HCI : Hid (wy9.cell? ⟨G, i, none⟩ = some (.slice Av lo cv)) := Lib.hid (by rw [hlo]; exact (hbc.cell (p := ⟨G, i, none⟩) (show G < wy.heap.size by omega)).trans HVO.out)
                        have hob9 : ∀ g, (Value.slice Av lo cv).ownBlock = some g → S ≤ g ∧ (g < FB ∨ FE ≤ g) ∧ g < wy.heap.size := fun g hg => by
                          rw [hlo] at hg
                          exact ⟨(HOB.out g hg).1, (HOB.out g hg).2, (HOVO.out.lt g hg).2⟩
                        have e9l : (f :: c.1).length = 1 + nc := by rw [List.length_cons, HNC.out]; omega
                        have HFNT := Lib.hid (HFN.out k tp)
                        have hF9 : RdG KForm wy9 (fun b => b < wy9.heap.size ∧ (Value.slice Av lo cv).ownBlock ≠ some b ∧ G + 1 ≤ b) (.slice A9 (1 + nc) c9) (f :: c.1) := by
                          have hs1 := HFS.out
                          have h1 : wy9.ownsRow wy.heap.size 29 KForm.size (.slice A9 (1 + nc) c9) (f :: c.1).length (enc3 y0 ++ ys.flatMap enc3) := by rw [e9l]; exact hown9
                          refine rdg_row h1 (.cons ⟨_, by rw [HY0.out]; rfl, HSV.out.keep fun b hb => ?_⟩ (HGRS.out.keep fun b hb => ?_)) fun g hg => ?_
                          · have n := HKY.out b (by omega) (by omega)
                            exact ⟨⟨by omega, fun e => by have := hob9 b e; omega, by omega⟩, (hbc.block b (by omega)).trans n⟩
                          · exact ⟨⟨by omega, fun e => by have := hob9 b e; omega, by omega⟩, hbc.block b (by omega)⟩
                          · have := hown9.lt g hg
                            exact ⟨this.2, fun e => by have := hob9 g e; omega, by omega⟩
                        have HPUT : Hid (∀ W : World, W.heap = wy9.heap → Below G wy9 W → Below wy9.heap.size wy9 W ∧ Calls Tryd.prog 72 #[.slice Av lo cv, .agg #[.slice A9 (1 + nc) c9, .int .i64 wt9], .int .i64 (most : Int)] W (PutPost W (G + 1) (.slice Av lo cv) l9)) := Lib.hid fun W hh hB => by
                          have hbw : Below wy9.heap.size wy9 W := ⟨hB.os, hB.tape, hB.output, by rw [hh]; exact Nat.le_refl _, fun b _ => by rw [hh]⟩
                          have hfc := HFC.out k b q f r HFSM.out
                          have ho : OwnG KCut 51 W (G + 1) (.slice Av lo cv) (Lx.lC x most (Lx.formsR x s) s.size k b q f r) := by rw [hlo]; exact (HOVO.out.kept hbc).kept hbw
                          rw [hl9]
                          exact ⟨hbw, rput_any W (G + 1) most (.slice Av lo cv) _ (Lx.lC x most (Lx.formsR x s) s.size k b q f r) (Lx.pushC x f c) ho ⟨.slice A9 (1 + nc) c9, by rw [hwt9]; rfl, hF9.keep fun b hb => ⟨⟨by rw [hh]; exact hb.1, hb.2⟩, by rw [hh]⟩⟩ (Nat.le_trans hfc.len hm2) hm1 hm2 (by rw [hh]; omega)
                            hfc.asc (fun y hy g hg => hfc.mem y hy g hg) (fun g hg => by
                              rcases List.mem_cons.1 hg with e | e
                              · rw [e]; exact HFSM.out
                              · exact HFNT.out.mem c HMC.out g e)⟩
                        have HGS : Hid (G ≤ wy9.heap.size ∧ (∀ k, (Value.slice Av lo cv).ownBlock = some k → G ≤ k) ∧ G < S ∧ S ≤ wy9.heap.size ∧ i ≤ s.size) := Lib.hid ⟨by omega, fun g hg => by have := hob9 g hg; omega, hGS, by omega, by omega⟩
                        have HQ9 : Hid (∀ g, wy9.heap.size ≤ g → Q9 g) := Lib.hid fun g hg => by rw [hQ9]; right; omega
                        have HBX : Hid (wy9.cell? ⟨gx, 0, none⟩ = some (.slice A9 (1 + nc) c9) ∧ wy9.cell? ⟨gx, 1, none⟩ = some (.int .i64 wt9)) := Lib.hid ⟨by simp [World.cell?, hx9], by rw [hwt9]; simp [World.cell?, hx9]⟩
                        have HL9 : Hid (l9 = (Lx.lC x most (Lx.formsR x s) s.size k b q f (r + 1))) := Lib.hid (by rw [hl9]; exact (Lx.lC_succ (by rw [HTO.out]; exact HC.out)).symm)
                        have HQT : Hid (Q9 = (fun g => g < FB ∨ FE ≤ g) ∧ T9 = (Lx.rtabT x most (Lx.formsR x s) s.size k)) := Lib.hid ⟨hQ9, hT9⟩
                        have HOB9 := Lib.hid hob9
                        have hsy9 : wy.heap.size ≤ wy9.heap.size := hsy
                        clear hbc hQ9 hT9 hwt9 hl9 hlo hob9 hF9 hown9 e9l hx9 e9 e9' hsy HTY HOVO HVO HOB
                        go_upto_region 23 with fail
                        refine wp_region_inv2T (fun T0 => RccI T0 wy9 G G s.size S i gx most Q9 T9 l9 (.slice Av lo cv) (.slice A9 (1 + nc) c9) wt9) (by kernel_rfl) (by kernel_rfl) ?g0c ?gstepc ?gendc
                        case g0c =>
                          have hno : ∀ j, ¬ dn (Array.replicate 11 false) j := by
                            intro j; unfold dn; by_cases hj : j < 11 <;> simp [Array.getD, hj]
                          have na : ∀ {j : Nat} {Z : Prop}, dn (Array.replicate 11 false) j → Z := fun hj => absurd hj (hno _)
                          exact ⟨_, rfl, { bel := (Below.refl _ _).drew, siz := rfl, kp := fun _ _ => rfl, k2 := rfl, k9 := rfl, k10 := rfl, k15 := rfl, p0 := na, p1 := na, p2 := na, p3 := na, p4 := na, p5 := na, p6 := na, p7 := na, p9 := na, hp := fun _ => rfl, q8 := fun hj => absurd hj (hno _), q10 := fun hj => absurd hj (hno _), l8 := fun hj => absurd hj (hno _), l10 := fun hj => absurd hj (hno _) }⟩
                        case gstepc =>
                          intro T0 d a wc i hd hI hi
                          obtain ⟨hlt, hnd, hpre⟩ := mem_ready hi
                          have hd' : d.size = 11 := hd
                          have hin : i < 11 := hlt
                          clear hi hd hlt
                          obtain ⟨t, rfl, h⟩ := hI
                          have hcs : i = 0 ∨ i = 1 ∨ i = 2 ∨ i = 3 ∨ i = 4 ∨ i = 5 ∨ i = 6 ∨ i = 7 ∨ i = 8 ∨ i = 9 ∨ i = 10 := by omega
                          rcases hcs with rfl | rfl | rfl | rfl | rfl | rfl | rfl | rfl | rfl | rfl | rfl
                          · have hi : 0 < d.size := by omega
                            have q9 := h.k9
                            refine wpOp_plain rfl rfl ?_
                            go_simp
                            exact ⟨_, rfl, { bel := h.bel, siz := (by simpa using h.siz), kp := rk h.kp, k2 := rs h.k2, k9 := rs h.k9, k10 := rs h.k10, k15 := rs h.k15, hp := fun hk => h.hp (fun q => hk (dn_up q)), q8 := fun hj hk => by obtain ⟨v, h1, h2⟩ := h.q8 (dn_of hi hj (by decide)) (fun q => hk (dn_up q)); exact ⟨v, (set_other (by decide)).trans h1, h2⟩, q10 := fun hj => h.q10 (dn_of hi hj (by decide)), l8 := fun hj => (fun q => ⟨dn_up q.1, dn_up q.2⟩) (h.l8 (dn_of hi hj (by decide))), l10 := fun hj => dn_up (h.l10 (dn_of hi hj (by decide))), p0 := fun _ => set_same (by have := h.siz; omega), p1 := rp hi h.p1, p2 := rp hi h.p2, p3 := rp hi h.p3, p4 := rp hi h.p4, p5 := rp hi h.p5, p6 := rp hi h.p6, p7 := rp hi h.p7, p9 := rp hi h.p9 }⟩
                          · have hi : 1 < d.size := by omega
                            have q10 := h.k10
                            refine wpOp_plain rfl rfl ?_
                            go_simp
                            exact ⟨_, rfl, { bel := h.bel, siz := (by simpa using h.siz), kp := rk h.kp, k2 := rs h.k2, k9 := rs h.k9, k10 := rs h.k10, k15 := rs h.k15, hp := fun hk => h.hp (fun q => hk (dn_up q)), q8 := fun hj hk => by obtain ⟨v, h1, h2⟩ := h.q8 (dn_of hi hj (by decide)) (fun q => hk (dn_up q)); exact ⟨v, (set_other (by decide)).trans h1, h2⟩, q10 := fun hj => h.q10 (dn_of hi hj (by decide)), l8 := fun hj => (fun q => ⟨dn_up q.1, dn_up q.2⟩) (h.l8 (dn_of hi hj (by decide))), l10 := fun hj => dn_up (h.l10 (dn_of hi hj (by decide))), p0 := rp hi h.p0, p1 := fun _ => set_same (by have := h.siz; omega), p2 := rp hi h.p2, p3 := rp hi h.p3, p4 := rp hi h.p4, p5 := rp hi h.p5, p6 := rp hi h.p6, p7 := rp hi h.p7, p9 := rp hi h.p9 }⟩
                          · have hi : 2 < d.size := by omega
                            have q9 := h.k9
                            refine wpOp_plain rfl rfl ?_
                            go_simp
                            exact ⟨_, rfl, { bel := h.bel, siz := (by simpa using h.siz), kp := rk h.kp, k2 := rs h.k2, k9 := rs h.k9, k10 := rs h.k10, k15 := rs h.k15, hp := fun hk => h.hp (fun q => hk (dn_up q)), q8 := fun hj hk => by obtain ⟨v, h1, h2⟩ := h.q8 (dn_of hi hj (by decide)) (fun q => hk (dn_up q)); exact ⟨v, (set_other (by decide)).trans h1, h2⟩, q10 := fun hj => h.q10 (dn_of hi hj (by decide)), l8 := fun hj => (fun q => ⟨dn_up q.1, dn_up q.2⟩) (h.l8 (dn_of hi hj (by decide))), l10 := fun hj => dn_up (h.l10 (dn_of hi hj (by decide))), p0 := rp hi h.p0, p1 := rp hi h.p1, p2 := fun _ => set_same (by have := h.siz; omega), p3 := rp hi h.p3, p4 := rp hi h.p4, p5 := rp hi h.p5, p6 := rp hi h.p6, p7 := rp hi h.p7, p9 := rp hi h.p9 }⟩
                          · have hi : 3 < d.size := by omega
                            have q10 := h.k10
                            refine wpOp_plain rfl rfl ?_
                            go_simp
                            exact ⟨_, rfl, { bel := h.bel, siz := (by simpa using h.siz), kp := rk h.kp, k2 := rs h.k2, k9 := rs h.k9, k10 := rs h.k10, k15 := rs h.k15, hp := fun hk => h.hp (fun q => hk (dn_up q)), q8 := fun hj hk => by obtain ⟨v, h1, h2⟩ := h.q8 (dn_of hi hj (by decide)) (fun q => hk (dn_up q)); exact ⟨v, (set_other (by decide)).trans h1, h2⟩, q10 := fun hj => h.q10 (dn_of hi hj (by decide)), l8 := fun hj => (fun q => ⟨dn_up q.1, dn_up q.2⟩) (h.l8 (dn_of hi hj (by decide))), l10 := fun hj => dn_up (h.l10 (dn_of hi hj (by decide))), p0 := rp hi h.p0, p1 := rp hi h.p1, p2 := rp hi h.p2, p3 := fun _ => set_same (by have := h.siz; omega), p4 := rp hi h.p4, p5 := rp hi h.p5, p6 := rp hi h.p6, p7 := rp hi h.p7, p9 := rp hi h.p9 }⟩
                          · have hi : 4 < d.size := by omega
                            have e2 := h.p2 (hpre _ rfl ⟨2, .data⟩ (by simp) rfl)
                            have e3 := h.p3 (hpre _ rfl ⟨3, .data⟩ (by simp) rfl)
                            have hx1 : (i : Int) < (s.size : Int) + 1 := by omega
                            refine wpOp_plain rfl rfl ?_
                            go_simp
                            exact ⟨_, rfl, { bel := h.bel, siz := (by simpa using h.siz), kp := rk h.kp, k2 := rs h.k2, k9 := rs h.k9, k10 := rs h.k10, k15 := rs h.k15, hp := fun hk => h.hp (fun q => hk (dn_up q)), q8 := fun hj hk => by obtain ⟨v, h1, h2⟩ := h.q8 (dn_of hi hj (by decide)) (fun q => hk (dn_up q)); exact ⟨v, (set_other (by decide)).trans h1, h2⟩, q10 := fun hj => h.q10 (dn_of hi hj (by decide)), l8 := fun hj => (fun q => ⟨dn_up q.1, dn_up q.2⟩) (h.l8 (dn_of hi hj (by decide))), l10 := fun hj => dn_up (h.l10 (dn_of hi hj (by decide))), p0 := rp hi h.p0, p1 := rp hi h.p1, p2 := rp hi h.p2, p3 := rp hi h.p3, p4 := fun _ => set_same (by have := h.siz; omega), p5 := rp hi h.p5, p6 := rp hi h.p6, p7 := rp hi h.p7, p9 := rp hi h.p9 }⟩
                          · have hi : 5 < d.size := by omega
                            have e4 := h.p4 (hpre _ rfl ⟨4, .data⟩ (by simp) rfl)
                            have hns : ¬ dn d 8 := fun q => not_dn hi hnd (h.l8 q).1
                            have hhp := h.hp hns
                            have ca := (cell_heap hhp ⟨G, i, none⟩).trans HCI.out
                            refine wpOp_plain rfl rfl ?_
                            go_simp
                            exact ⟨_, rfl, { bel := h.bel, siz := (by simpa using h.siz), kp := rk h.kp, k2 := rs h.k2, k9 := rs h.k9, k10 := rs h.k10, k15 := rs h.k15, hp := fun hk => h.hp (fun q => hk (dn_up q)), q8 := fun hj hk => by obtain ⟨v, h1, h2⟩ := h.q8 (dn_of hi hj (by decide)) (fun q => hk (dn_up q)); exact ⟨v, (set_other (by decide)).trans h1, h2⟩, q10 := fun hj => h.q10 (dn_of hi hj (by decide)), l8 := fun hj => absurd (h.l8 (dn_of hi hj (by decide))).1 (not_dn hi hnd), l10 := fun hj => dn_up (h.l10 (dn_of hi hj (by decide))), p0 := rp hi h.p0, p1 := rp hi h.p1, p2 := rp hi h.p2, p3 := rp hi h.p3, p4 := rp hi h.p4, p5 := fun _ => set_same (by have := h.siz; omega), p6 := rp hi h.p6, p7 := rp hi h.p7, p9 := rp hi h.p9 }⟩
                          · have hi : 6 < d.size := by omega
                            have q15 := h.k15
                            have hns : ¬ dn d 8 := fun q => not_dn hi hnd (h.l8 q).2
                            have hhp := h.hp hns
                            have cb := (cell_heap hhp ⟨gx, 0, none⟩).trans HBX.out.1
                            have cd := (cell_heap hhp ⟨gx, 1, none⟩).trans HBX.out.2
                            refine wpOp_plain rfl rfl ?_
                            go_simp
                            exact ⟨_, rfl, { bel := h.bel, siz := (by simpa using h.siz), kp := rk h.kp, k2 := rs h.k2, k9 := rs h.k9, k10 := rs h.k10, k15 := rs h.k15, hp := fun hk => h.hp (fun q => hk (dn_up q)), q8 := fun hj hk => by obtain ⟨v, h1, h2⟩ := h.q8 (dn_of hi hj (by decide)) (fun q => hk (dn_up q)); exact ⟨v, (set_other (by decide)).trans h1, h2⟩, q10 := fun hj => h.q10 (dn_of hi hj (by decide)), l8 := fun hj => absurd (h.l8 (dn_of hi hj (by decide))).2 (not_dn hi hnd), l10 := fun hj => dn_up (h.l10 (dn_of hi hj (by decide))), p0 := rp hi h.p0, p1 := rp hi h.p1, p2 := rp hi h.p2, p3 := rp hi h.p3, p4 := rp hi h.p4, p5 := rp hi h.p5, p6 := fun _ => set_same (by have := h.siz; omega), p7 := rp hi h.p7, p9 := rp hi h.p9 }⟩
                          · have hi : 7 < d.size := by omega
                            have q2 := h.k2
                            refine wpOp_plain rfl rfl ?_
                            go_simp
                            exact ⟨_, rfl, { bel := h.bel, siz := (by simpa using h.siz), kp := rk h.kp, k2 := rs h.k2, k9 := rs h.k9, k10 := rs h.k10, k15 := rs h.k15, hp := fun hk => h.hp (fun q => hk (dn_up q)), q8 := fun hj hk => by obtain ⟨v, h1, h2⟩ := h.q8 (dn_of hi hj (by decide)) (fun q => hk (dn_up q)); exact ⟨v, (set_other (by decide)).trans h1, h2⟩, q10 := fun hj => h.q10 (dn_of hi hj (by decide)), l8 := fun hj => (fun q => ⟨dn_up q.1, dn_up q.2⟩) (h.l8 (dn_of hi hj (by decide))), l10 := fun hj => dn_up (h.l10 (dn_of hi hj (by decide))), p0 := rp hi h.p0, p1 := rp hi h.p1, p2 := rp hi h.p2, p3 := rp hi h.p3, p4 := rp hi h.p4, p5 := rp hi h.p5, p6 := rp hi h.p6, p7 := fun _ => set_same (by have := h.siz; omega), p9 := rp hi h.p9 }⟩
                          · have hi : 8 < d.size := by omega
                            have hnd' := not_dn hi hnd
                            have d5 : dn d 5 := hpre _ rfl ⟨5, .data⟩ (by simp) rfl
                            have d6 : dn d 6 := hpre _ rfl ⟨6, .data⟩ (by simp) rfl
                            have d7 : dn d 7 := hpre _ rfl ⟨7, .data⟩ (by simp) rfl
                            have e5 := h.p5 d5
                            have e6 := h.p6 d6
                            have e7 := h.p7 d7
                            have hs0 := h.hp hnd'
                            obtain ⟨hb0, hcall⟩ := HPUT.out wc hs0 h.bel
                            refine wpOp_plain rfl rfl ?_
                            go_simp
                            refine hcall.mono ?_
                            rintro e1 w1 ⟨v1, rfl, ho1, hg1, ha1⟩
                            have hg2 : wy9.grownBy w1 (Value.slice Av lo cv).ownBlock := grown_after (grown_of_below hb0) hg1 (.inl rfl)
                            have hp2 : PutP wy9 w1 G (.slice Av lo cv) v1 l9 := ⟨ho1, hg2, ha1.imp id fun e => by obtain ⟨g, e1, e2⟩ := e; exact ⟨g, e1, by rw [hs0] at e2; exact e2⟩⟩
                            exact ⟨_, rfl, { bel := h.bel.grown hg1 (by rw [hs0]; exact HGS.out.1) (fun k hk => HGS.out.2.1 k hk), siz := (by simpa using h.siz), kp := rk h.kp, k2 := rs h.k2, k9 := rs h.k9, k10 := rs h.k10, k15 := rs h.k15, hp := fun hk => absurd (dn_self hi) hk, q8 := fun _ _ => ⟨v1, set_same (by have := h.siz; omega), hp2⟩, q10 := fun hj => absurd (h.l10 (dn_of hi hj (by decide))) hnd', l8 := fun _ => ⟨dn_up d5, dn_up d6⟩, l10 := fun hj => absurd (h.l10 (dn_of hi hj (by decide))) hnd', p0 := rp hi h.p0, p1 := rp hi h.p1, p2 := rp hi h.p2, p3 := rp hi h.p3, p4 := rp hi h.p4, p5 := rp hi h.p5, p6 := rp hi h.p6, p7 := rp hi h.p7, p9 := rp hi h.p9 }⟩
                          · have hi : 9 < d.size := by omega
                            have e0 := h.p0 (hpre _ rfl ⟨0, .data⟩ (by simp) rfl)
                            have e1 := h.p1 (hpre _ rfl ⟨1, .data⟩ (by simp) rfl)
                            have hx1 : (i : Int) < (s.size : Int) + 1 := by omega
                            refine wpOp_plain rfl rfl ?_
                            go_simp
                            exact ⟨_, rfl, { bel := h.bel, siz := (by simpa using h.siz), kp := rk h.kp, k2 := rs h.k2, k9 := rs h.k9, k10 := rs h.k10, k15 := rs h.k15, hp := fun hk => h.hp (fun q => hk (dn_up q)), q8 := fun hj hk => by obtain ⟨v, h1, h2⟩ := h.q8 (dn_of hi hj (by decide)) (fun q => hk (dn_up q)); exact ⟨v, (set_other (by decide)).trans h1, h2⟩, q10 := fun hj => h.q10 (dn_of hi hj (by decide)), l8 := fun hj => (fun q => ⟨dn_up q.1, dn_up q.2⟩) (h.l8 (dn_of hi hj (by decide))), l10 := fun hj => dn_up (h.l10 (dn_of hi hj (by decide))), p0 := rp hi h.p0, p1 := rp hi h.p1, p2 := rp hi h.p2, p3 := rp hi h.p3, p4 := rp hi h.p4, p5 := rp hi h.p5, p6 := rp hi h.p6, p7 := rp hi h.p7, p9 := fun _ => set_same (by have := h.siz; omega) }⟩
                          · have hi : 10 < d.size := by omega
                            have hnd' := not_dn hi hnd
                            have d8 : dn d 8 := hpre _ rfl ⟨8, .data⟩ (by simp) rfl
                            have d9 : dn d 9 := hpre _ rfl ⟨9, .data⟩ (by simp) rfl
                            have e9 := h.p9 d9
                            obtain ⟨v1, e8, hp8⟩ := h.q8 d8 hnd'
                            have hpt := TabC.put HTC.out HCI.out hp8 HGS.out.2.2.1 HGS.out.2.2.2.1 HGS.out.2.2.2.2 HQ9.out
                            obtain ⟨A8, c8, rfl⟩ := hp8.1.form
                            obtain ⟨u0, r0, z0⟩ : ∃ u0, wc.cell? ⟨G, i, none⟩ = some u0 ∧ wc.frozen? ⟨G, i, none⟩ = false := by
                              obtain ⟨arr, v, a1, a2, a3, _, a5, _⟩ := HTC.out
                              have hG9 : wc.heap[G]? = some (.cells arr 45 (0, 0)) := (hp8.2.1.block G (Array.getElem?_eq_some_iff.1 a1).1 (fun e => by
                                have hvv := HCI.out
                                have : v = .slice Av lo cv := by simpa [World.cell?, a1, a3] using hvv
                                subst this
                                have := (a5 G e.symm).1
                                have := HGS.out.2.2.1
                                omega)).trans a1
                              exact ⟨v, by simp [World.cell?, hG9, a3], by simp [World.frozen?, hG9]⟩
                            refine wpOp_plain rfl rfl ?_
                            go_simp
                            exact ⟨_, rfl, { bel := h.bel.setCell (Nat.le_refl _) _, siz := h.siz, kp := h.kp, k2 := h.k2, k9 := h.k9, k10 := h.k10, k15 := h.k15, hp := fun hk => absurd (dn_up d8) hk, q8 := fun _ hk => absurd (dn_self hi) hk, q10 := fun _ => hpt, l8 := fun hj => (fun q => ⟨dn_up q.1, dn_up q.2⟩) (h.l8 (dn_of hi hj (by decide))), l10 := fun _ => dn_up d8, p0 := rn hi h.p0, p1 := rn hi h.p1, p2 := rn hi h.p2, p3 := rn hi h.p3, p4 := rn hi h.p4, p5 := rn hi h.p5, p6 := rn hi h.p6, p7 := rn hi h.p7, p9 := rn hi h.p9 }⟩
                        case gendc =>
                          intro d a wc hd hI hall
                          obtain ⟨t, rfl, h⟩ := hI
                          have hdn : ∀ j, j < 11 → dn d j := fun j hj => dn_all hd hall hj
                          have hd : ∀ j, (_ : j < 11 := by decide) → dn d j := fun j hj => hdn j hj
                          obtain ⟨t124, x124⟩ : ∃ v, t[124]? = some v := ⟨_, Array.getElem?_eq_getElem (by have := h.siz; omega)⟩
                          obtain ⟨ht9, hk9⟩ := h.q10 (hdn 10 (by omega))
                          have hfe := frame_eq [(116, _), (117, _), (118, _), (119, _), (120, _), (121, _), (122, _), (123, _), (124, _), (125, _)] (h.siz.trans rfl) h.kp rfl ⟨h.p0 (hd 0), h.p1 (hd 1), h.p2 (hd 2), h.p3 (hd 3), h.p4 (hd 4), h.p5 (hd 5), h.p6 (hd 6), h.p7 (hd 7), x124, h.p9 (hd 9), trivial⟩
                          simp only [List.foldl_cons, List.foldl_nil, List.setIfInBounds_toArray, List.set_cons_succ, List.set_cons_zero] at hfe
                          have hbc := h.bel
                          subst hfe
                          clear h hdn hd hall
                          have HBW := Lib.hid (HBY.out.trans ((HBB.out.mono (by omega)).trans hbc))
                          have HT9 : Hid (TabC wc G s.size S i (fun g => g < FB ∨ FE ≤ g) (Lx.rtabT x most (Lx.formsR x s) s.size k) (Lx.lC x most (Lx.formsR x s) s.size k b q f (r + 1))) := Lib.hid (by rw [← HL9.out, ← HQT.out.1, ← HQT.out.2]; exact ht9)
                          have HK9 : Hid (∀ b, FB ≤ b → b < FE → wc.heap[b]? = wf.heap[b]?) := Lib.hid fun b' h1 h2 => by
                            have hs1 := HFS.out
                            exact (hk9 b' (by omega) (by omega) (fun e => by have := HOB9.out b' e.symm; omega)).trans ((HBB.out.block b' (by omega)).trans (HKY.out b' h1 h2))
                          have hsw : FE ≤ wc.heap.size := by have := hbc.size; omega
                          clear hbc ht9 hk9
                          go_wp2_with fail
                          go_roundg (nl - (r + 1))
                          case measure => omega
                          case rel => exact ⟨r + 1, by omega, rfl, by go_num, HBW.out, hsw, HT9.out, HK9.out⟩
                    · have HE : Hid ((Lx.lF x most (Lx.formsR x s) s.size k b (q + 1)) = (Lx.lC x most (Lx.formsR x s) s.size k b q f nl)) := Lib.hid (by rw [HNL.out]; rw [← HTO.out]; exact Lx.lF_succ (by rw [HTO.out, ← HK.out.1]; exact HF.out))
                      have hrn9 : r = nl := by omega
                      have HTY2 : Hid (TabC wy G s.size S i (fun g => g < FB ∨ FE ≤ g) (Lx.rtabT x most (Lx.formsR x s) s.size k) (Lx.lF x most (Lx.formsR x s) s.size k b (q + 1))) := Lib.hid (by rw [HE.out, ← hrn9]; exact hty)
                      have hlrI : ¬ (r : Int) < (nl : Int) := by omega
                      clear hby hty hky hru1
                      go_wp2_with fail
                      go_roundg (nf - (q + 1))
                      case measure => omega
                      case rel => exact ⟨q + 1, by omega, rfl, by go_num, HBY.out, hsy9, HTY2.out, HKY.out⟩
                · have HE : Hid (TabC wz G s.size S i (fun _ => True) (Lx.rtabT x most (Lx.formsR x s) s.size k) (Lx.lB x most (Lx.formsR x s) s.size k (b + 1))) := Lib.hid (by
                    have e : (Lx.lB x most (Lx.formsR x s) s.size k (b + 1)) = (Lx.lF x most (Lx.formsR x s) s.size k b nf) := by rw [Lx.lB_succ HLT.out, HTO.out, ← HK.out.1, HNF.out]
                    rw [e, show nf = q by omega]
                    exact htz.weak fun _ _ _ _ => trivial)
                  have hsz8 : S ≤ wz.heap.size := by omega
                  clear hbz htz
                  go_wp2_with fail
                  go_roundg (min (s.size - i) 24 - (b + 1))
                  case measure => omega
                  case rel => exact ⟨b + 1, tp + 1, by omega, rfl, by have := HTP.out; omega, by go_num, HBZ.out, hsz8, HE.out⟩
        · have HE : Hid (RdTb wq G s.size (k + 1) (Lx.rtabT x most (Lx.formsR x s) s.size (k + 1))) := Lib.hid (by
            have := htq.close HK.out.1 HK.out.2 (l := (Lx.lB x most (Lx.formsR x s) s.size k b)) (by
              have q := Lx.lB_end (x := x) (most := most) (forms := Lx.formsR x s) (n := s.size) (k := k) (b := b) (by rw [← HK.out.1]; omega)
              rw [← HK.out.1] at q
              exact q) hsq
            exact this)
          have hsq1 : G + 1 ≤ wq.heap.size := by omega
          clear hbq htq
          by_cases hto1 : (tp : Int) ≤ (s.size : Int)
          · have hto2 : ¬ (tp : Int) - (i : Int) ≤ 24 := by omega
            clear hto
            go_wp2_with fail
            go_roundg (s.size - (k + 1))
            case measure => have := HK.out; omega
            case rel => exact ⟨k + 1, (i : Int) - 1, HK.out.2, rfl, by have := HK.out; omega, rfl, HBQ.out, hsq1, HE.out⟩
          · clear hto
            go_wp2_with fail
            go_roundg (s.size - (k + 1))
            case measure => have := HK.out; omega
            case rel => exact ⟨k + 1, (i : Int) - 1, HK.out.2, rfl, by have := HK.out; omega, rfl, HBQ.out, hsq1, HE.out⟩
    · have hks : k = s.size := by omega
      obtain ⟨arr, a1, a2, a3, -⟩ := hrn
      obtain ⟨u, hu, hru⟩ := a3 0 (Nat.zero_le _)
      have r0 : wr.cell? ⟨G, 0, none⟩ = some u := by simp [World.cell?, a1, hu]
      have HRU : Hid (RdG KCut wr (fun b => b < wr.heap.size) u (Lx.rtabT x most (Lx.formsR x s) s.size s.size 0)) := Lib.hid (by rw [hks] at hru; exact hru.keep fun b hb => ⟨hb.2, rfl⟩)
      clear hbel a1 a2 a3 hu hru
      go_wp2_with fail
      go_ret2
      exact ⟨_, rfl, HRU.out, HB1.out.trans (HBEL.out.mono (by rw [HG.out]; exact HB1.out.size))⟩
end Go.Proofs.YtpmfjndbckblfaaDoor
