/- signs.Format. Made by gen_sgformat.py. -/
import Derived.Test.YtkmimjngmfdpmaaGreatDoorMmSgNamedPlain
import Derived.Test.YtkmimjngmfdpmaaGreatDoorMmSgFmtStep
import Derived.Test.YtkmimjngmfdpmaaGreatDoorMgSgCheck
import Derived.Test.YtkmimjngmfdpmaaGreatDoorMgIdle
namespace Go.Proofs.YtkmimjngmfdpmaaGreatDoor
open Go Go.RowKit

theorem five_cells {w : World} {b : Nat} {v0 v1 v2 v3 v4 : Value} {t : TypeId} (h : w.heap[b]? = some (.cells #[v0, v1, v2, v3, v4] t (0, 0))) :
    w.cell? ⟨b, 0, none⟩ = some v0 ∧ w.cell? ⟨b, 1, none⟩ = some v1 ∧ w.cell? ⟨b, 2, none⟩ = some v2 ∧ w.cell? ⟨b, 3, none⟩ = some v3 ∧ w.cell? ⟨b, 4, none⟩ = some v4 :=
  ⟨by simp [World.cell?, h], by simp [World.cell?, h], by simp [World.cell?, h], by simp [World.cell?, h], by simp [World.cell?, h]⟩
theorem four_cellsV {w : World} {b : Nat} {v0 v1 v2 v3 : Value} {t : TypeId} (h : w.heap[b]? = some (.cells #[v0, v1, v2, v3] t (0, 0))) :
    w.cell? ⟨b, 0, none⟩ = some v0 ∧ w.cell? ⟨b, 1, none⟩ = some v1 ∧ w.cell? ⟨b, 2, none⟩ = some v2 ∧ w.cell? ⟨b, 3, none⟩ = some v3 :=
  ⟨by simp [World.cell?, h], by simp [World.cell?, h], by simp [World.cell?, h], by simp [World.cell?, h]⟩
/-- strconv.Itoa of small numbers: the world is as it was -/
theorem gItoa_small (n : Int) (hn : 0 ≤ n ∧ n ≤ 99) (W : World) : Calls Tryz.prog 54 #[.int .i64 n] W (fun e w' => e = .returned (.string (Sg.bs (Lib.itoa n))) ∧ w' = W) := by
  obtain ⟨k, rfl⟩ := Int.eq_ofNat_of_zero_le hn.1
  have h := Tryz.strconv_Itoa_small k (by omega) W
  rw [Lib.itoa, if_neg (by omega), Int.toNat_natCast]
  exact h
theorem Sg.head_bytes (p : List UInt8) : ((⟨#[112, 101, 114, 105, 111, 100, 115, 32]⟩ : ByteArray) ++ Sg.bs p ++ (⟨#[10]⟩ : ByteArray)).data.toList = Sg.perB ++ 32 :: (p ++ [10]) := by
  simp [Sg.bs, Sg.perB]
theorem Sg.size_bytes (c : ByteArray) (a b : List UInt8) : (c ++ (⟨#[32]⟩ : ByteArray) ++ Sg.bs a ++ (⟨#[120]⟩ : ByteArray) ++ Sg.bs b).data.toList = c.data.toList ++ 32 :: (a ++ 120 :: b) := by
  simp [Sg.bs]
theorem Sg.value_bytes (k : UInt8) (t : ByteArray) (a b : List UInt8) : ((⟨#[32]⟩ : ByteArray) ++ (⟨#[k]⟩ : ByteArray) ++ (⟨#[58]⟩ : ByteArray) ++ t ++ (⟨#[64]⟩ : ByteArray) ++ Sg.bs a ++ (⟨#[45]⟩ : ByteArray) ++ Sg.bs b).data.toList = 32 :: k :: 58 :: (t.data.toList ++ 64 :: (a ++ 45 :: b)) := by
  simp [Sg.bs]
theorem cell_new (w : World) (v : Value) (t : TypeId) : (w.alloc (.cells #[v] t)).cell? ⟨w.heap.size, 0, none⟩ = some v := by
  have := heap_alloc_new w (.cells #[v] t)
  simp only [World.cell?, this]
  rfl
theorem ba_size (a b : ByteArray) : (a ++ b).size = a.size + b.size := ByteArray.size_append
theorem Sg.head_size (p : ByteArray) : ((⟨#[112, 101, 114, 105, 111, 100, 115, 32]⟩ : ByteArray) ++ p ++ (⟨#[10]⟩ : ByteArray)).size = p.size + 9 := by
  rw [ba_size, ba_size]
  show 8 + p.size + 1 = _
  omega
theorem Sg.size_size (c a b : ByteArray) : (c ++ (⟨#[32]⟩ : ByteArray) ++ a ++ (⟨#[120]⟩ : ByteArray) ++ b).size = c.size + a.size + b.size + 2 := by
  rw [ba_size, ba_size, ba_size, ba_size]
  show c.size + 1 + a.size + 1 + b.size = _
  omega
theorem Sg.value_size (k : UInt8) (t a b : ByteArray) : ((⟨#[32]⟩ : ByteArray) ++ (⟨#[k]⟩ : ByteArray) ++ (⟨#[58]⟩ : ByteArray) ++ t ++ (⟨#[64]⟩ : ByteArray) ++ a ++ (⟨#[45]⟩ : ByteArray) ++ b).size = t.size + a.size + b.size + 5 := by
  rw [ba_size, ba_size, ba_size, ba_size, ba_size, ba_size, ba_size]
  show 1 + 1 + 1 + t.size + 1 + a.size + 1 + b.size = _
  omega
structure FmsR (T0 : Array Value) (W0 : World) (bb eb : Nat) (l : List UInt8) (cd iw ih : ByteArray) (wd hg : Int) (d : Array Bool) (t : Array Value) (wc : World) : Prop where
  bel : Below bb W0 wc
  siz : t.size = 78
  kp : ∀ i, i ∉ ([28, 29, 30, 31, 32, 33, 34, 35, 36, 37, 38, 39, 40] : List Nat) → t[i]? = T0[i]?
  k5 : t[5]? = some (.pointer (some ⟨bb, 0, none⟩))
  k7 : t[7]? = some (.pointer (some ⟨eb, 0, none⟩))
  p0 : dn d 0 → t[28]? = some (.pointer (some ⟨eb, 0, none⟩))
  p1 : dn d 1 → t[29]? = some (.string cd)
  p2 : dn d 2 → t[30]? = some (.string (cd ++ (⟨#[32]⟩ : ByteArray)))
  p3 : dn d 3 → t[31]? = some (.pointer (some ⟨eb, 1, none⟩))
  p4 : dn d 4 → t[32]? = some (.int .i64 wd)
  p5 : dn d 5 → t[33]? = some (.string iw)
  p6 : dn d 6 → t[34]? = some (.string (cd ++ (⟨#[32]⟩ : ByteArray) ++ iw))
  p7 : dn d 7 → t[35]? = some (.string (cd ++ (⟨#[32]⟩ : ByteArray) ++ iw ++ (⟨#[120]⟩ : ByteArray)))
  p8 : dn d 8 → t[36]? = some (.pointer (some ⟨eb, 2, none⟩))
  p9 : dn d 9 → t[37]? = some (.int .i64 hg)
  p10 : dn d 10 → t[38]? = some (.string ih)
  p11 : dn d 11 → t[39]? = some (.string (cd ++ (⟨#[32]⟩ : ByteArray) ++ iw ++ (⟨#[120]⟩ : ByteArray) ++ ih))
  oth : ¬ dn d 12 → Below W0.heap.size W0 wc
  res : dn d 12 → Lib.IsBuilder 106 5 bb bb (Lib.byteCells (l ++ (cd ++ (⟨#[32]⟩ : ByteArray) ++ iw ++ (⟨#[120]⟩ : ByteArray) ++ ih).data.toList)) wc ∧ Side bb W0 wc
  l1_0 : dn d 1 → dn d 0
  l2_1 : dn d 2 → dn d 1
  l4_3 : dn d 4 → dn d 3
  l5_4 : dn d 5 → dn d 4
  l6_2 : dn d 6 → dn d 2
  l6_5 : dn d 6 → dn d 5
  l7_6 : dn d 7 → dn d 6
  l9_8 : dn d 9 → dn d 8
  l10_9 : dn d 10 → dn d 9
  l11_7 : dn d 11 → dn d 7
  l11_10 : dn d 11 → dn d 10
  l12_0 : dn d 12 → dn d 0
  l12_1 : dn d 12 → dn d 1
  l12_2 : dn d 12 → dn d 2
  l12_3 : dn d 12 → dn d 3
  l12_4 : dn d 12 → dn d 4
  l12_5 : dn d 12 → dn d 5
  l12_6 : dn d 12 → dn d 6
  l12_7 : dn d 12 → dn d 7
  l12_8 : dn d 12 → dn d 8
  l12_9 : dn d 12 → dn d 9
  l12_10 : dn d 12 → dn d 10
  l12_11 : dn d 12 → dn d 11
def FmsI (T0 : Array Value) (W0 : World) (bb eb : Nat) (l : List UInt8) (cd iw ih : ByteArray) (wd hg : Int) (d : Array Bool) (a : Act) (wc : World) : Prop := ∃ t : Array Value, a = ⟨t, []⟩ ∧ FmsR T0 W0 bb eb l cd iw ih wd hg d t wc
structure FmvR (T0 : Array Value) (W0 : World) (bb eb ki : Nat) (kb : UInt8) (l : List UInt8) (tx il ih : ByteArray) (lo hi : Int) (d : Array Bool) (t : Array Value) (wc : World) : Prop where
  bel : Below bb W0 wc
  siz : t.size = 78
  kp : ∀ i, i ∉ ([51, 52, 53, 54, 55, 56, 57, 58, 59, 60, 61, 62, 63, 64, 65, 66, 67, 68, 69, 70, 71, 72, 73] : List Nat) → t[i]? = T0[i]?
  k5 : t[5]? = some (.pointer (some ⟨bb, 0, none⟩))
  k9 : t[9]? = some (.pointer (some ⟨eb, 0, none⟩))
  p0 : dn d 0 → t[51]? = some (.pointer (some ⟨eb, 0, none⟩))
  p1 : dn d 1 → t[52]? = some (.int .i64 ((ki : Int) + 1))
  p2 : dn d 2 → t[53]? = some (.int .i64 (ki : Int))
  p3 : dn d 3 → t[54]? = some (.pointer (some ⟨0, ki, none⟩))
  p4 : dn d 4 → t[55]? = some (.int .u8 (kb.toNat : Int))
  p6 : dn d 6 → t[57]? = some (.string (⟨#[kb]⟩ : ByteArray))
  p7 : dn d 7 → t[58]? = some (.string ((⟨#[32]⟩ : ByteArray) ++ (⟨#[kb]⟩ : ByteArray)))
  p8 : dn d 8 → t[59]? = some (.string ((⟨#[32]⟩ : ByteArray) ++ (⟨#[kb]⟩ : ByteArray) ++ (⟨#[58]⟩ : ByteArray)))
  p9 : dn d 9 → t[60]? = some (.pointer (some ⟨eb, 1, none⟩))
  p10 : dn d 10 → t[61]? = some (.string tx)
  p11 : dn d 11 → t[62]? = some (.string ((⟨#[32]⟩ : ByteArray) ++ (⟨#[kb]⟩ : ByteArray) ++ (⟨#[58]⟩ : ByteArray) ++ tx))
  p12 : dn d 12 → t[63]? = some (.string ((⟨#[32]⟩ : ByteArray) ++ (⟨#[kb]⟩ : ByteArray) ++ (⟨#[58]⟩ : ByteArray) ++ tx ++ (⟨#[64]⟩ : ByteArray)))
  p13 : dn d 13 → t[64]? = some (.pointer (some ⟨eb, 2, none⟩))
  p14 : dn d 14 → t[65]? = some (.int .i64 lo)
  p15 : dn d 15 → t[66]? = some (.string il)
  p16 : dn d 16 → t[67]? = some (.string ((⟨#[32]⟩ : ByteArray) ++ (⟨#[kb]⟩ : ByteArray) ++ (⟨#[58]⟩ : ByteArray) ++ tx ++ (⟨#[64]⟩ : ByteArray) ++ il))
  p17 : dn d 17 → t[68]? = some (.string ((⟨#[32]⟩ : ByteArray) ++ (⟨#[kb]⟩ : ByteArray) ++ (⟨#[58]⟩ : ByteArray) ++ tx ++ (⟨#[64]⟩ : ByteArray) ++ il ++ (⟨#[45]⟩ : ByteArray)))
  p18 : dn d 18 → t[69]? = some (.pointer (some ⟨eb, 3, none⟩))
  p19 : dn d 19 → t[70]? = some (.int .i64 hi)
  p20 : dn d 20 → t[71]? = some (.string ih)
  p21 : dn d 21 → t[72]? = some (.string ((⟨#[32]⟩ : ByteArray) ++ (⟨#[kb]⟩ : ByteArray) ++ (⟨#[58]⟩ : ByteArray) ++ tx ++ (⟨#[64]⟩ : ByteArray) ++ il ++ (⟨#[45]⟩ : ByteArray) ++ ih))
  oth : ¬ dn d 22 → Below W0.heap.size W0 wc
  sl : dn d 5 → ¬ dn d 22 → ∃ g, t[56]? = some (.slice (some ⟨g, 0, none⟩) 1 1) ∧ wc.cell? ⟨g, 0, none⟩ = some (.int .u8 (kb.toNat : Int)) ∧ g < wc.heap.size
  res : dn d 22 → Lib.IsBuilder 106 5 bb bb (Lib.byteCells (l ++ ((⟨#[32]⟩ : ByteArray) ++ (⟨#[kb]⟩ : ByteArray) ++ (⟨#[58]⟩ : ByteArray) ++ tx ++ (⟨#[64]⟩ : ByteArray) ++ il ++ (⟨#[45]⟩ : ByteArray) ++ ih).data.toList)) wc ∧ Side bb W0 wc
  l1_0 : dn d 1 → dn d 0
  l2_1 : dn d 2 → dn d 1
  l3_2 : dn d 3 → dn d 2
  l4_3 : dn d 4 → dn d 3
  l5_4 : dn d 5 → dn d 4
  l6_5 : dn d 6 → dn d 5
  l7_6 : dn d 7 → dn d 6
  l8_7 : dn d 8 → dn d 7
  l10_9 : dn d 10 → dn d 9
  l11_8 : dn d 11 → dn d 8
  l11_10 : dn d 11 → dn d 10
  l12_11 : dn d 12 → dn d 11
  l14_13 : dn d 14 → dn d 13
  l15_14 : dn d 15 → dn d 14
  l16_12 : dn d 16 → dn d 12
  l16_15 : dn d 16 → dn d 15
  l17_16 : dn d 17 → dn d 16
  l19_18 : dn d 19 → dn d 18
  l20_19 : dn d 20 → dn d 19
  l21_17 : dn d 21 → dn d 17
  l21_20 : dn d 21 → dn d 20
  l22_0 : dn d 22 → dn d 0
  l22_1 : dn d 22 → dn d 1
  l22_2 : dn d 22 → dn d 2
  l22_3 : dn d 22 → dn d 3
  l22_4 : dn d 22 → dn d 4
  l22_5 : dn d 22 → dn d 5
  l22_6 : dn d 22 → dn d 6
  l22_7 : dn d 22 → dn d 7
  l22_8 : dn d 22 → dn d 8
  l22_9 : dn d 22 → dn d 9
  l22_10 : dn d 22 → dn d 10
  l22_11 : dn d 22 → dn d 11
  l22_12 : dn d 22 → dn d 12
  l22_13 : dn d 22 → dn d 13
  l22_14 : dn d 22 → dn d 14
  l22_15 : dn d 22 → dn d 15
  l22_16 : dn d 22 → dn d 16
  l22_17 : dn d 22 → dn d 17
  l22_18 : dn d 22 → dn d 18
  l22_19 : dn d 22 → dn d 19
  l22_20 : dn d 22 → dn d 20
  l22_21 : dn d 22 → dn d 21
def FmvI (T0 : Array Value) (W0 : World) (bb eb ki : Nat) (kb : UInt8) (l : List UInt8) (tx il ih : ByteArray) (lo hi : Int) (d : Array Bool) (a : Act) (wc : World) : Prop := ∃ t : Array Value, a = ⟨t, []⟩ ∧ FmvR T0 W0 bb eb ki kb l tx il ih lo hi d t wc

set_option maxRecDepth 100000 in
set_option maxHeartbeats 16000000 in
theorem gFormat_any (v : Value) (l : Sg.SList) (w : World) (hr : RdSL w w.heap.size v l) (hg : Glob w) : Calls Tryz.prog 39 #[v] w (RetFmt (Sg.formatV l) (Sg.checkV l) w) := by
  have HRL := Lib.hid hr
  obtain ⟨⟨u, rfl, hgl⟩, -⟩ := hr
  obtain ⟨A0, c0, rfl⟩ := hgl.form
  have HG0 := Lib.hid hgl
  have HGL := Lib.hid fun (W : World) (hW : Below w.heap.size w W) => hg.below hW
  obtain ⟨W1, hW1⟩ : ∃ W1, W1 = w.alloc (.cells #[.int .i64 l.periods, .slice A0 l.signs.length c0] 24) := ⟨_, rfl⟩
  have hb1 : Below w.heap.size w W1 := by rw [hW1]; exact (Below.refl _ _).alloc (Nat.le_refl _) _
  have hX : W1.heap[w.heap.size]? = some (.cells #[.int .i64 l.periods, .slice A0 l.signs.length c0] 24 (0, 0)) := by rw [hW1]; exact heap_alloc_new _ _
  have hs1 : w.heap.size < W1.heap.size := (Array.getElem?_eq_some_iff.1 hX).1
  have x0 : W1.cell? ⟨w.heap.size, 0, none⟩ = some (.int .i64 l.periods) := by simp [World.cell?, hX]
  have x1 : W1.cell? ⟨w.heap.size, 1, none⟩ = some (.slice A0 l.signs.length c0) := by simp [World.cell?, hX]
  have HB1 := Lib.hid hb1
  have HW1 := Lib.hid hW1
  have HX1 := Lib.hid hX
  have HCK := Lib.hid (gCheck_any _ l W1 (HRL.out.on hb1))
  obtain ⟨e1, he1⟩ : ∃ e1, e1 = Sg.checkV l := ⟨_, rfl⟩
  have HE1 := Lib.hid he1
  rw [← he1] at HCK ⊢
  obtain ⟨res, hres⟩ : ∃ r, r = Sg.formatV l := ⟨_, rfl⟩
  have HRES := Lib.hid hres
  rw [← hres]
  clear hgl hW1 hb1 hX he1 hres hg
  go_enter Tryz.func39, Tryz.ntmps39
  go_upto_region 1 with fail
  rw [← HW1.out]
  go_wp2_with fail
  refine HCK.out.mono ?_
  rintro e w2 ⟨rfl, hb2⟩
  have HB2 := Lib.hid (HB1.out.trans (hb2.mono (by omega)))
  have hx2 := (hb2.block w.heap.size hs1).trans HX1.out
  have hs2 : w.heap.size < w2.heap.size := (Array.getElem?_eq_some_iff.1 hx2).1
  have HX2 := Lib.hid hx2
  clear hb2 x0 x1 hx2
  by_cases h0 : e1 = 0
  case neg =>
    have HN : Hid (res = []) := Lib.hid (by rw [HRES.out]; unfold Sg.formatV; rw [if_neg (by rw [← HE1.out]; exact h0)])
    go_wp2_with fail
    go_ret2
    exact ⟨⟨#[]⟩, rfl, HN.out.symm, HB2.out⟩
  subst h0
  have HCL : Hid (Sg.checkV l = 0) := Lib.hid HE1.out.symm
  have HN : Hid (res = Sg.fmtL l) := Lib.hid (by rw [HRES.out]; unfold Sg.formatV; rw [if_pos HCL.out])
  have HFN := Lib.hid (Sg.fineS HCL.out)
  have hsl : l.signs.length ≤ 200 := HFN.out.2.1
  have hpe := HFN.out.1
  obtain ⟨w3, hw3⟩ : ∃ w3, w3 = w2.alloc (.cells #[.pointer none, .slice none 0 0] 106) := ⟨_, rfl⟩
  have hb3 : Below w2.heap.size w2 w3 := by rw [hw3]; exact (Below.refl _ _).alloc (Nat.le_refl _) _
  obtain ⟨bb, hbb⟩ : ∃ bb, bb = w2.heap.size := ⟨_, rfl⟩
  have hBu : w3.heap[bb]? = some (.cells #[.pointer none, .slice none 0 0] 106 (0, 0)) := by rw [hw3, hbb]; exact heap_alloc_new _ _
  have hbb3 : bb < w3.heap.size := (Array.getElem?_eq_some_iff.1 hBu).1
  have hwb : w.heap.size < bb := by omega
  have HIB3 : Hid (Lib.IsBuilder 106 5 bb bb (Lib.byteCells []) w3) := Lib.hid (.inl ⟨Nat.le_refl _, _, hBu, World.ownsRow_nil _ _ _ _, by simp [Value.ownBlock]⟩)
  have HB3 := Lib.hid (HB2.out.trans (hb3.mono (by omega)))
  have HX3 := Lib.hid ((hb3.block w.heap.size hs2).trans HX2.out)
  have HW3 := Lib.hid hw3
  have HBB := Lib.hid hbb
  have HIP := Lib.hid (fun W => gItoa_small l.periods (by omega) W)
  have HZ0 := Lib.hid (Sg.fmtP_zero l)
  have hip : (Lib.itoa l.periods).length ≤ 1 := Sg.itoa_one (by omega)
  obtain ⟨ip, hipe⟩ : ∃ s, s = Sg.bs (Lib.itoa l.periods) := ⟨_, rfl⟩
  have hips : ip.size ≤ 1 := by rw [hipe]; exact hip
  rw [← hipe] at HIP
  have HIE := Lib.hid hipe
  clear hb3 hBu hw3 hbb hip hipe
  go_upto_region 5 with fail
  rw [← HW3.out, ← HBB.out]
  have x0 : w3.cell? ⟨w.heap.size, 0, none⟩ = some (.int .i64 l.periods) := by have := HX3.out; simp [World.cell?, this]
  go_wp2_with fail
  refine (HIP.out _).mono ?_
  rintro e w4 ⟨rfl, rfl⟩
  clear x0
  go_wp2_with fail
  refine (gWrite_any bb bb [] _ _ HIB3.out (by rw [Sg.head_size]; show 0 + _ ≤ _; omega) (by omega)).mono ?_
  rintro e w5 ⟨rfl, hib5, hb5, hsd5⟩
  have HIB5 : Hid (Lib.IsBuilder 106 5 bb bb (Lib.byteCells (Sg.fmtP l 0)) w5) := Lib.hid (by
    rw [HIE.out, List.nil_append, Sg.head_bytes, ← HZ0.out] at hib5
    exact hib5)
  have HB5 := Lib.hid (HB3.out.trans (hb5.mono (Nat.le_of_lt hwb)))
  have HX5 := Lib.hid ((hb5.block w.heap.size hwb).trans HX3.out)
  have hbb5 : bb < w5.heap.size := by have := hb5.size; omega
  clear hib5 hb5 hsd5 hips
  have x1 : w5.cell? ⟨w.heap.size, 1, none⟩ = some (.slice A0 l.signs.length c0) := by have := HX5.out; simp [World.cell?, this]
  go_wp2_with fail
  clear x1
  go_loopg [24] l.signs.length (fun g i wr => ∃ k : Nat, k ≤ l.signs.length ∧ g = l.signs.length - k ∧ i = .int .i64 k ∧ Lib.IsBuilder 106 5 bb bb (Lib.byteCells (Sg.fmtP l k)) wr ∧ Below bb w5 wr)
  case atStart => exact ⟨0, Nat.zero_le _, rfl, rfl, HIB5.out, Below.refl _ _⟩
  case round =>
    obtain ⟨k, hk, rfl, rfl, hib, hbr⟩ := hrel
    have HIBR := Lib.hid hib
    have HBR := Lib.hid hbr
    have hsr : w5.heap.size ≤ wr.heap.size := hbr.size
    have HWR : Hid (Below w.heap.size w wr) := Lib.hid (HB5.out.trans (hbr.mono (Nat.le_of_lt hwb)))
    clear hib hbr
    by_cases hlt : k < l.signs.length
    · obtain ⟨b, off, rfl, hb, hcell⟩ := HG0.out.five (by omega)
      obtain ⟨s, hs⟩ : ∃ s, l.signs[k]? = some s := ⟨_, List.getElem?_eq_getElem hlt⟩
      obtain ⟨uv, hrd, g0, g1, g2, g3, g4⟩ := hcell k s hs
      have f0 := (HWR.out.cell (p := ⟨b, off + k * 5, none⟩) hb).trans g0
      have f1 := (HWR.out.cell (p := ⟨b, off + k * 5 + 1, none⟩) hb).trans g1
      have f2 := (HWR.out.cell (p := ⟨b, off + k * 5 + 2, none⟩) hb).trans g2
      have f3 := (HWR.out.cell (p := ⟨b, off + k * 5 + 3, none⟩) hb).trans g3
      have f4 := (HWR.out.cell (p := ⟨b, off + k * 5 + 4, none⟩) hb).trans g4
      obtain ⟨A2, c2, rfl, hvc, hvm⟩ := rds_form hrd.rds
      have HRD := Lib.hid hrd
      have HS := Lib.hid hs
      have HSF := Lib.hid (HFN.out.2.2 s (List.mem_of_getElem? hs))
      have hsn : s.values.length ≤ 12 := HSF.out.n
      have hkI : (0 : Int) ≤ (k : Int) := by omega
      have hkJ : (k : Int) < (l.signs.length : Int) := by omega
      clear hcell hs g0 g1 g2 g3 g4 hrd
      go_upto_region 9 with fail
      obtain ⟨W0, hW0⟩ : ∃ W, W = wr.alloc (.cells #[.string s.code, .int .i64 s.wide, .int .i64 s.high, .bool s.even, .slice A2 s.values.length c2] 67) := ⟨_, rfl⟩
      obtain ⟨eb, heb⟩ : ∃ e, e = wr.heap.size := ⟨_, rfl⟩
      have HBW : Hid (Below wr.heap.size wr W0) := Lib.hid (by rw [hW0]; exact (Below.refl _ _).alloc (Nat.le_refl _) _)
      have HEN : Hid (W0.heap[eb]? = some (.cells #[.string s.code, .int .i64 s.wide, .int .i64 s.high, .bool s.even, .slice A2 s.values.length c2] 67 (0, 0))) := Lib.hid (by rw [hW0, heb]; exact heap_alloc_new _ _)
      have hE : eb < W0.heap.size := by rw [hW0, heb]; simp
      have hbW0 : bb < W0.heap.size := by have := HBW.out.size; omega
      have hebb : bb < eb := by omega
      have HW0 := Lib.hid (HWR.out.trans (HBW.out.mono HWR.out.size))
      have HBR0 : Hid (Below bb w5 W0) := Lib.hid (HBR.out.trans (HBW.out.mono (by omega)))
      have HIB0 := Lib.hid (isB_below HIBR.out HBW.out)
      rw [← hW0, ← heb]
      obtain ⟨l0, hl0⟩ : ∃ l0, l0 = Sg.fmtP l k := ⟨_, rfl⟩
      rw [← hl0] at HIB0
      have HLN := Lib.hid hl0
      have hll : l0.length ≤ 60000 := by rw [hl0]; exact Sg.fmtP_len HCL.out k
      have HIB := HIB0
      have hcz : s.code.size ≤ 8 := (Sg.code_all HSF.out.c).2.2
      have HIW := Lib.hid (fun W => gItoa_small s.wide (by have := HSF.out.w; omega) W)
      have HIH := Lib.hid (fun W => gItoa_small s.high (by have := HSF.out.h; omega) W)
      have HLP := Lib.hid (Sg.size_bytes s.code (Lib.itoa s.wide) (Lib.itoa s.high))
      have hiw0 : (Lib.itoa s.wide).length ≤ 2 := Sg.itoa_two (by have := HSF.out.w; omega)
      have hih0 : (Lib.itoa s.high).length ≤ 2 := Sg.itoa_two (by have := HSF.out.h; omega)
      obtain ⟨iw, hiwe⟩ : ∃ s', s' = Sg.bs (Lib.itoa s.wide) := ⟨_, rfl⟩
      obtain ⟨ih, hihe⟩ : ∃ s', s' = Sg.bs (Lib.itoa s.high) := ⟨_, rfl⟩
      have hiw : iw.size ≤ 2 := by rw [hiwe]; exact hiw0
      have hih : ih.size ≤ 2 := by rw [hihe]; exact hih0
      rw [← hiwe] at HIW HLP
      rw [← hihe] at HIH HLP
      have HSZ : Hid (l0.length + (s.code ++ (⟨#[32]⟩ : ByteArray) ++ iw ++ (⟨#[120]⟩ : ByteArray) ++ ih).size ≤ 10000000) := Lib.hid (by rw [Sg.size_size]; omega)
      clear hl0 hW0 heb f0 f1 f2 f3 f4 hiwe hihe hiw0 hih0
      refine wp_region_inv2T (fun T0 => FmsI T0 W0 bb eb l0 s.code iw ih s.wide s.high) (by kernel_rfl) (by kernel_rfl) ?g0s ?gsteps ?gends
      case g0s =>
        have hno : ∀ j, ¬ dn (Array.replicate 13 false) j := by
          intro j; unfold dn; by_cases hj : j < 13 <;> simp [Array.getD, hj]
        have na : ∀ {j : Nat} {Z : Prop}, dn (Array.replicate 13 false) j → Z := fun hj => absurd hj (hno _)
        exact ⟨_, rfl, { bel := (Below.refl _ _).drew, siz := rfl, kp := fun _ _ => rfl, k5 := rfl, k7 := rfl, p0 := na, p1 := na, p2 := na, p3 := na, p4 := na, p5 := na, p6 := na, p7 := na, p8 := na, p9 := na, p10 := na, p11 := na, oth := fun _ => (Below.refl _ _).drew, res := fun hj => absurd hj (hno _), l1_0 := fun hj => absurd hj (hno _), l2_1 := fun hj => absurd hj (hno _), l4_3 := fun hj => absurd hj (hno _), l5_4 := fun hj => absurd hj (hno _), l6_2 := fun hj => absurd hj (hno _), l6_5 := fun hj => absurd hj (hno _), l7_6 := fun hj => absurd hj (hno _), l9_8 := fun hj => absurd hj (hno _), l10_9 := fun hj => absurd hj (hno _), l11_7 := fun hj => absurd hj (hno _), l11_10 := fun hj => absurd hj (hno _), l12_0 := fun hj => absurd hj (hno _), l12_1 := fun hj => absurd hj (hno _), l12_2 := fun hj => absurd hj (hno _), l12_3 := fun hj => absurd hj (hno _), l12_4 := fun hj => absurd hj (hno _), l12_5 := fun hj => absurd hj (hno _), l12_6 := fun hj => absurd hj (hno _), l12_7 := fun hj => absurd hj (hno _), l12_8 := fun hj => absurd hj (hno _), l12_9 := fun hj => absurd hj (hno _), l12_10 := fun hj => absurd hj (hno _), l12_11 := fun hj => absurd hj (hno _) }⟩
      case gsteps =>
        intro T0 d a wc i hd hI hi
        obtain ⟨hlt, hnd, hpre⟩ := mem_ready hi
        have hd' : d.size = 13 := hd
        have hin : i < 13 := hlt
        clear hi hd hlt
        obtain ⟨t, rfl, h⟩ := hI
        have hcs : i = 0 ∨ i = 1 ∨ i = 2 ∨ i = 3 ∨ i = 4 ∨ i = 5 ∨ i = 6 ∨ i = 7 ∨ i = 8 ∨ i = 9 ∨ i = 10 ∨ i = 11 ∨ i = 12 := by omega
        rcases hcs with rfl | rfl | rfl | rfl | rfl | rfl | rfl | rfl | rfl | rfl | rfl | rfl | rfl
        · have hi : 0 < d.size := by omega
          have q7 := h.k7
          have hnd' := not_dn hi hnd
          refine wpOp_plain rfl rfl ?_
          go_simp
          exact ⟨_, rfl, { bel := h.bel, siz := (by simpa using h.siz), kp := rk h.kp, k5 := rs h.k5, k7 := rs h.k7, oth := fun hk => h.oth (fun q => hk (dn_up q)), res := fun hj => absurd (h.l12_0 (dn_of hi hj (by decide))) hnd', l1_0 := fun hj => dn_up (h.l1_0 (dn_of hi hj (by decide))), l2_1 := fun hj => dn_up (h.l2_1 (dn_of hi hj (by decide))), l4_3 := fun hj => dn_up (h.l4_3 (dn_of hi hj (by decide))), l5_4 := fun hj => dn_up (h.l5_4 (dn_of hi hj (by decide))), l6_2 := fun hj => dn_up (h.l6_2 (dn_of hi hj (by decide))), l6_5 := fun hj => dn_up (h.l6_5 (dn_of hi hj (by decide))), l7_6 := fun hj => dn_up (h.l7_6 (dn_of hi hj (by decide))), l9_8 := fun hj => dn_up (h.l9_8 (dn_of hi hj (by decide))), l10_9 := fun hj => dn_up (h.l10_9 (dn_of hi hj (by decide))), l11_7 := fun hj => dn_up (h.l11_7 (dn_of hi hj (by decide))), l11_10 := fun hj => dn_up (h.l11_10 (dn_of hi hj (by decide))), l12_0 := fun hj => dn_up (h.l12_0 (dn_of hi hj (by decide))), l12_1 := fun hj => dn_up (h.l12_1 (dn_of hi hj (by decide))), l12_2 := fun hj => dn_up (h.l12_2 (dn_of hi hj (by decide))), l12_3 := fun hj => dn_up (h.l12_3 (dn_of hi hj (by decide))), l12_4 := fun hj => dn_up (h.l12_4 (dn_of hi hj (by decide))), l12_5 := fun hj => dn_up (h.l12_5 (dn_of hi hj (by decide))), l12_6 := fun hj => dn_up (h.l12_6 (dn_of hi hj (by decide))), l12_7 := fun hj => dn_up (h.l12_7 (dn_of hi hj (by decide))), l12_8 := fun hj => dn_up (h.l12_8 (dn_of hi hj (by decide))), l12_9 := fun hj => dn_up (h.l12_9 (dn_of hi hj (by decide))), l12_10 := fun hj => dn_up (h.l12_10 (dn_of hi hj (by decide))), l12_11 := fun hj => dn_up (h.l12_11 (dn_of hi hj (by decide))), p0 := fun _ => set_same (by have := h.siz; omega), p1 := rp hi h.p1, p2 := rp hi h.p2, p3 := rp hi h.p3, p4 := rp hi h.p4, p5 := rp hi h.p5, p6 := rp hi h.p6, p7 := rp hi h.p7, p8 := rp hi h.p8, p9 := rp hi h.p9, p10 := rp hi h.p10, p11 := rp hi h.p11 }⟩
        · have hi : 1 < d.size := by omega
          have e0 := h.p0 (hpre _ rfl ⟨0, .data⟩ (by simp) rfl)
          have hnd' := not_dn hi hnd
          have h7 : ¬ dn d 12 := fun q => hnd' (h.l12_1 q)
          obtain ⟨m0, m1, m2, m3, m4⟩ := five_cells (((h.oth h7).block eb hE).trans HEN.out)
          refine wpOp_plain rfl rfl ?_
          go_simp
          exact ⟨_, rfl, { bel := h.bel, siz := (by simpa using h.siz), kp := rk h.kp, k5 := rs h.k5, k7 := rs h.k7, oth := fun hk => h.oth (fun q => hk (dn_up q)), res := fun hj => absurd (h.l12_1 (dn_of hi hj (by decide))) hnd', l1_0 := fun _ => dn_up (hpre _ rfl ⟨0, .data⟩ (by simp) rfl), l2_1 := fun hj => dn_up (h.l2_1 (dn_of hi hj (by decide))), l4_3 := fun hj => dn_up (h.l4_3 (dn_of hi hj (by decide))), l5_4 := fun hj => dn_up (h.l5_4 (dn_of hi hj (by decide))), l6_2 := fun hj => dn_up (h.l6_2 (dn_of hi hj (by decide))), l6_5 := fun hj => dn_up (h.l6_5 (dn_of hi hj (by decide))), l7_6 := fun hj => dn_up (h.l7_6 (dn_of hi hj (by decide))), l9_8 := fun hj => dn_up (h.l9_8 (dn_of hi hj (by decide))), l10_9 := fun hj => dn_up (h.l10_9 (dn_of hi hj (by decide))), l11_7 := fun hj => dn_up (h.l11_7 (dn_of hi hj (by decide))), l11_10 := fun hj => dn_up (h.l11_10 (dn_of hi hj (by decide))), l12_0 := fun hj => dn_up (h.l12_0 (dn_of hi hj (by decide))), l12_1 := fun hj => dn_up (h.l12_1 (dn_of hi hj (by decide))), l12_2 := fun hj => dn_up (h.l12_2 (dn_of hi hj (by decide))), l12_3 := fun hj => dn_up (h.l12_3 (dn_of hi hj (by decide))), l12_4 := fun hj => dn_up (h.l12_4 (dn_of hi hj (by decide))), l12_5 := fun hj => dn_up (h.l12_5 (dn_of hi hj (by decide))), l12_6 := fun hj => dn_up (h.l12_6 (dn_of hi hj (by decide))), l12_7 := fun hj => dn_up (h.l12_7 (dn_of hi hj (by decide))), l12_8 := fun hj => dn_up (h.l12_8 (dn_of hi hj (by decide))), l12_9 := fun hj => dn_up (h.l12_9 (dn_of hi hj (by decide))), l12_10 := fun hj => dn_up (h.l12_10 (dn_of hi hj (by decide))), l12_11 := fun hj => dn_up (h.l12_11 (dn_of hi hj (by decide))), p0 := rp hi h.p0, p1 := fun _ => set_same (by have := h.siz; omega), p2 := rp hi h.p2, p3 := rp hi h.p3, p4 := rp hi h.p4, p5 := rp hi h.p5, p6 := rp hi h.p6, p7 := rp hi h.p7, p8 := rp hi h.p8, p9 := rp hi h.p9, p10 := rp hi h.p10, p11 := rp hi h.p11 }⟩
        · have hi : 2 < d.size := by omega
          have e1 := h.p1 (hpre _ rfl ⟨1, .data⟩ (by simp) rfl)
          have hnd' := not_dn hi hnd
          have hz : ¬ 9223372036854775807 < s.code.size + 1 := by omega
          refine wpOp_plain rfl rfl ?_
          go_simp
          exact ⟨_, rfl, { bel := h.bel, siz := (by simpa using h.siz), kp := rk h.kp, k5 := rs h.k5, k7 := rs h.k7, oth := fun hk => h.oth (fun q => hk (dn_up q)), res := fun hj => absurd (h.l12_2 (dn_of hi hj (by decide))) hnd', l1_0 := fun hj => dn_up (h.l1_0 (dn_of hi hj (by decide))), l2_1 := fun _ => dn_up (hpre _ rfl ⟨1, .data⟩ (by simp) rfl), l4_3 := fun hj => dn_up (h.l4_3 (dn_of hi hj (by decide))), l5_4 := fun hj => dn_up (h.l5_4 (dn_of hi hj (by decide))), l6_2 := fun hj => dn_up (h.l6_2 (dn_of hi hj (by decide))), l6_5 := fun hj => dn_up (h.l6_5 (dn_of hi hj (by decide))), l7_6 := fun hj => dn_up (h.l7_6 (dn_of hi hj (by decide))), l9_8 := fun hj => dn_up (h.l9_8 (dn_of hi hj (by decide))), l10_9 := fun hj => dn_up (h.l10_9 (dn_of hi hj (by decide))), l11_7 := fun hj => dn_up (h.l11_7 (dn_of hi hj (by decide))), l11_10 := fun hj => dn_up (h.l11_10 (dn_of hi hj (by decide))), l12_0 := fun hj => dn_up (h.l12_0 (dn_of hi hj (by decide))), l12_1 := fun hj => dn_up (h.l12_1 (dn_of hi hj (by decide))), l12_2 := fun hj => dn_up (h.l12_2 (dn_of hi hj (by decide))), l12_3 := fun hj => dn_up (h.l12_3 (dn_of hi hj (by decide))), l12_4 := fun hj => dn_up (h.l12_4 (dn_of hi hj (by decide))), l12_5 := fun hj => dn_up (h.l12_5 (dn_of hi hj (by decide))), l12_6 := fun hj => dn_up (h.l12_6 (dn_of hi hj (by decide))), l12_7 := fun hj => dn_up (h.l12_7 (dn_of hi hj (by decide))), l12_8 := fun hj => dn_up (h.l12_8 (dn_of hi hj (by decide))), l12_9 := fun hj => dn_up (h.l12_9 (dn_of hi hj (by decide))), l12_10 := fun hj => dn_up (h.l12_10 (dn_of hi hj (by decide))), l12_11 := fun hj => dn_up (h.l12_11 (dn_of hi hj (by decide))), p0 := rp hi h.p0, p1 := rp hi h.p1, p2 := fun _ => set_same (by have := h.siz; omega), p3 := rp hi h.p3, p4 := rp hi h.p4, p5 := rp hi h.p5, p6 := rp hi h.p6, p7 := rp hi h.p7, p8 := rp hi h.p8, p9 := rp hi h.p9, p10 := rp hi h.p10, p11 := rp hi h.p11 }⟩
        · have hi : 3 < d.size := by omega
          have q7 := h.k7
          have hnd' := not_dn hi hnd
          refine wpOp_plain rfl rfl ?_
          go_simp
          exact ⟨_, rfl, { bel := h.bel, siz := (by simpa using h.siz), kp := rk h.kp, k5 := rs h.k5, k7 := rs h.k7, oth := fun hk => h.oth (fun q => hk (dn_up q)), res := fun hj => absurd (h.l12_3 (dn_of hi hj (by decide))) hnd', l1_0 := fun hj => dn_up (h.l1_0 (dn_of hi hj (by decide))), l2_1 := fun hj => dn_up (h.l2_1 (dn_of hi hj (by decide))), l4_3 := fun hj => dn_up (h.l4_3 (dn_of hi hj (by decide))), l5_4 := fun hj => dn_up (h.l5_4 (dn_of hi hj (by decide))), l6_2 := fun hj => dn_up (h.l6_2 (dn_of hi hj (by decide))), l6_5 := fun hj => dn_up (h.l6_5 (dn_of hi hj (by decide))), l7_6 := fun hj => dn_up (h.l7_6 (dn_of hi hj (by decide))), l9_8 := fun hj => dn_up (h.l9_8 (dn_of hi hj (by decide))), l10_9 := fun hj => dn_up (h.l10_9 (dn_of hi hj (by decide))), l11_7 := fun hj => dn_up (h.l11_7 (dn_of hi hj (by decide))), l11_10 := fun hj => dn_up (h.l11_10 (dn_of hi hj (by decide))), l12_0 := fun hj => dn_up (h.l12_0 (dn_of hi hj (by decide))), l12_1 := fun hj => dn_up (h.l12_1 (dn_of hi hj (by decide))), l12_2 := fun hj => dn_up (h.l12_2 (dn_of hi hj (by decide))), l12_3 := fun hj => dn_up (h.l12_3 (dn_of hi hj (by decide))), l12_4 := fun hj => dn_up (h.l12_4 (dn_of hi hj (by decide))), l12_5 := fun hj => dn_up (h.l12_5 (dn_of hi hj (by decide))), l12_6 := fun hj => dn_up (h.l12_6 (dn_of hi hj (by decide))), l12_7 := fun hj => dn_up (h.l12_7 (dn_of hi hj (by decide))), l12_8 := fun hj => dn_up (h.l12_8 (dn_of hi hj (by decide))), l12_9 := fun hj => dn_up (h.l12_9 (dn_of hi hj (by decide))), l12_10 := fun hj => dn_up (h.l12_10 (dn_of hi hj (by decide))), l12_11 := fun hj => dn_up (h.l12_11 (dn_of hi hj (by decide))), p0 := rp hi h.p0, p1 := rp hi h.p1, p2 := rp hi h.p2, p3 := fun _ => set_same (by have := h.siz; omega), p4 := rp hi h.p4, p5 := rp hi h.p5, p6 := rp hi h.p6, p7 := rp hi h.p7, p8 := rp hi h.p8, p9 := rp hi h.p9, p10 := rp hi h.p10, p11 := rp hi h.p11 }⟩
        · have hi : 4 < d.size := by omega
          have e3 := h.p3 (hpre _ rfl ⟨3, .data⟩ (by simp) rfl)
          have hnd' := not_dn hi hnd
          have h7 : ¬ dn d 12 := fun q => hnd' (h.l12_4 q)
          obtain ⟨m0, m1, m2, m3, m4⟩ := five_cells (((h.oth h7).block eb hE).trans HEN.out)
          refine wpOp_plain rfl rfl ?_
          go_simp
          exact ⟨_, rfl, { bel := h.bel, siz := (by simpa using h.siz), kp := rk h.kp, k5 := rs h.k5, k7 := rs h.k7, oth := fun hk => h.oth (fun q => hk (dn_up q)), res := fun hj => absurd (h.l12_4 (dn_of hi hj (by decide))) hnd', l1_0 := fun hj => dn_up (h.l1_0 (dn_of hi hj (by decide))), l2_1 := fun hj => dn_up (h.l2_1 (dn_of hi hj (by decide))), l4_3 := fun _ => dn_up (hpre _ rfl ⟨3, .data⟩ (by simp) rfl), l5_4 := fun hj => dn_up (h.l5_4 (dn_of hi hj (by decide))), l6_2 := fun hj => dn_up (h.l6_2 (dn_of hi hj (by decide))), l6_5 := fun hj => dn_up (h.l6_5 (dn_of hi hj (by decide))), l7_6 := fun hj => dn_up (h.l7_6 (dn_of hi hj (by decide))), l9_8 := fun hj => dn_up (h.l9_8 (dn_of hi hj (by decide))), l10_9 := fun hj => dn_up (h.l10_9 (dn_of hi hj (by decide))), l11_7 := fun hj => dn_up (h.l11_7 (dn_of hi hj (by decide))), l11_10 := fun hj => dn_up (h.l11_10 (dn_of hi hj (by decide))), l12_0 := fun hj => dn_up (h.l12_0 (dn_of hi hj (by decide))), l12_1 := fun hj => dn_up (h.l12_1 (dn_of hi hj (by decide))), l12_2 := fun hj => dn_up (h.l12_2 (dn_of hi hj (by decide))), l12_3 := fun hj => dn_up (h.l12_3 (dn_of hi hj (by decide))), l12_4 := fun hj => dn_up (h.l12_4 (dn_of hi hj (by decide))), l12_5 := fun hj => dn_up (h.l12_5 (dn_of hi hj (by decide))), l12_6 := fun hj => dn_up (h.l12_6 (dn_of hi hj (by decide))), l12_7 := fun hj => dn_up (h.l12_7 (dn_of hi hj (by decide))), l12_8 := fun hj => dn_up (h.l12_8 (dn_of hi hj (by decide))), l12_9 := fun hj => dn_up (h.l12_9 (dn_of hi hj (by decide))), l12_10 := fun hj => dn_up (h.l12_10 (dn_of hi hj (by decide))), l12_11 := fun hj => dn_up (h.l12_11 (dn_of hi hj (by decide))), p0 := rp hi h.p0, p1 := rp hi h.p1, p2 := rp hi h.p2, p3 := rp hi h.p3, p4 := fun _ => set_same (by have := h.siz; omega), p5 := rp hi h.p5, p6 := rp hi h.p6, p7 := rp hi h.p7, p8 := rp hi h.p8, p9 := rp hi h.p9, p10 := rp hi h.p10, p11 := rp hi h.p11 }⟩
        · have hi : 5 < d.size := by omega
          have hnd' := not_dn hi hnd
          have d4 : dn d 4 := hpre _ rfl ⟨4, .data⟩ (by simp) rfl
          have e4 := h.p4 d4
          refine wpOp_plain rfl rfl ?_
          go_simp
          refine (HIW.out wc).mono ?_
          rintro e1 w1 ⟨rfl, rfl⟩
          exact ⟨_, rfl, { bel := h.bel, siz := (by simpa using h.siz), kp := rk h.kp, k5 := rs h.k5, k7 := rs h.k7, oth := fun hk => h.oth (fun q => hk (dn_up q)), res := fun hj => absurd (h.l12_5 (dn_of hi hj (by decide))) hnd', l1_0 := fun hj => dn_up (h.l1_0 (dn_of hi hj (by decide))), l2_1 := fun hj => dn_up (h.l2_1 (dn_of hi hj (by decide))), l4_3 := fun hj => dn_up (h.l4_3 (dn_of hi hj (by decide))), l5_4 := fun _ => dn_up (hpre _ rfl ⟨4, .data⟩ (by simp) rfl), l6_2 := fun hj => dn_up (h.l6_2 (dn_of hi hj (by decide))), l6_5 := fun hj => dn_up (h.l6_5 (dn_of hi hj (by decide))), l7_6 := fun hj => dn_up (h.l7_6 (dn_of hi hj (by decide))), l9_8 := fun hj => dn_up (h.l9_8 (dn_of hi hj (by decide))), l10_9 := fun hj => dn_up (h.l10_9 (dn_of hi hj (by decide))), l11_7 := fun hj => dn_up (h.l11_7 (dn_of hi hj (by decide))), l11_10 := fun hj => dn_up (h.l11_10 (dn_of hi hj (by decide))), l12_0 := fun hj => dn_up (h.l12_0 (dn_of hi hj (by decide))), l12_1 := fun hj => dn_up (h.l12_1 (dn_of hi hj (by decide))), l12_2 := fun hj => dn_up (h.l12_2 (dn_of hi hj (by decide))), l12_3 := fun hj => dn_up (h.l12_3 (dn_of hi hj (by decide))), l12_4 := fun hj => dn_up (h.l12_4 (dn_of hi hj (by decide))), l12_5 := fun hj => dn_up (h.l12_5 (dn_of hi hj (by decide))), l12_6 := fun hj => dn_up (h.l12_6 (dn_of hi hj (by decide))), l12_7 := fun hj => dn_up (h.l12_7 (dn_of hi hj (by decide))), l12_8 := fun hj => dn_up (h.l12_8 (dn_of hi hj (by decide))), l12_9 := fun hj => dn_up (h.l12_9 (dn_of hi hj (by decide))), l12_10 := fun hj => dn_up (h.l12_10 (dn_of hi hj (by decide))), l12_11 := fun hj => dn_up (h.l12_11 (dn_of hi hj (by decide))), p0 := rp hi h.p0, p1 := rp hi h.p1, p2 := rp hi h.p2, p3 := rp hi h.p3, p4 := rp hi h.p4, p5 := fun _ => set_same (by have := h.siz; omega), p6 := rp hi h.p6, p7 := rp hi h.p7, p8 := rp hi h.p8, p9 := rp hi h.p9, p10 := rp hi h.p10, p11 := rp hi h.p11 }⟩
        · have hi : 6 < d.size := by omega
          have e2 := h.p2 (hpre _ rfl ⟨2, .data⟩ (by simp) rfl)
          have e5 := h.p5 (hpre _ rfl ⟨5, .data⟩ (by simp) rfl)
          have hnd' := not_dn hi hnd
          have hz : ¬ 9223372036854775807 < s.code.size + 1 + iw.size := by omega
          refine wpOp_plain rfl rfl ?_
          go_simp
          exact ⟨_, rfl, { bel := h.bel, siz := (by simpa using h.siz), kp := rk h.kp, k5 := rs h.k5, k7 := rs h.k7, oth := fun hk => h.oth (fun q => hk (dn_up q)), res := fun hj => absurd (h.l12_6 (dn_of hi hj (by decide))) hnd', l1_0 := fun hj => dn_up (h.l1_0 (dn_of hi hj (by decide))), l2_1 := fun hj => dn_up (h.l2_1 (dn_of hi hj (by decide))), l4_3 := fun hj => dn_up (h.l4_3 (dn_of hi hj (by decide))), l5_4 := fun hj => dn_up (h.l5_4 (dn_of hi hj (by decide))), l6_2 := fun _ => dn_up (hpre _ rfl ⟨2, .data⟩ (by simp) rfl), l6_5 := fun _ => dn_up (hpre _ rfl ⟨5, .data⟩ (by simp) rfl), l7_6 := fun hj => dn_up (h.l7_6 (dn_of hi hj (by decide))), l9_8 := fun hj => dn_up (h.l9_8 (dn_of hi hj (by decide))), l10_9 := fun hj => dn_up (h.l10_9 (dn_of hi hj (by decide))), l11_7 := fun hj => dn_up (h.l11_7 (dn_of hi hj (by decide))), l11_10 := fun hj => dn_up (h.l11_10 (dn_of hi hj (by decide))), l12_0 := fun hj => dn_up (h.l12_0 (dn_of hi hj (by decide))), l12_1 := fun hj => dn_up (h.l12_1 (dn_of hi hj (by decide))), l12_2 := fun hj => dn_up (h.l12_2 (dn_of hi hj (by decide))), l12_3 := fun hj => dn_up (h.l12_3 (dn_of hi hj (by decide))), l12_4 := fun hj => dn_up (h.l12_4 (dn_of hi hj (by decide))), l12_5 := fun hj => dn_up (h.l12_5 (dn_of hi hj (by decide))), l12_6 := fun hj => dn_up (h.l12_6 (dn_of hi hj (by decide))), l12_7 := fun hj => dn_up (h.l12_7 (dn_of hi hj (by decide))), l12_8 := fun hj => dn_up (h.l12_8 (dn_of hi hj (by decide))), l12_9 := fun hj => dn_up (h.l12_9 (dn_of hi hj (by decide))), l12_10 := fun hj => dn_up (h.l12_10 (dn_of hi hj (by decide))), l12_11 := fun hj => dn_up (h.l12_11 (dn_of hi hj (by decide))), p0 := rp hi h.p0, p1 := rp hi h.p1, p2 := rp hi h.p2, p3 := rp hi h.p3, p4 := rp hi h.p4, p5 := rp hi h.p5, p6 := fun _ => set_same (by have := h.siz; omega), p7 := rp hi h.p7, p8 := rp hi h.p8, p9 := rp hi h.p9, p10 := rp hi h.p10, p11 := rp hi h.p11 }⟩
        · have hi : 7 < d.size := by omega
          have e6 := h.p6 (hpre _ rfl ⟨6, .data⟩ (by simp) rfl)
          have hnd' := not_dn hi hnd
          have hz : ¬ 9223372036854775807 < s.code.size + 1 + iw.size + 1 := by omega
          refine wpOp_plain rfl rfl ?_
          go_simp
          exact ⟨_, rfl, { bel := h.bel, siz := (by simpa using h.siz), kp := rk h.kp, k5 := rs h.k5, k7 := rs h.k7, oth := fun hk => h.oth (fun q => hk (dn_up q)), res := fun hj => absurd (h.l12_7 (dn_of hi hj (by decide))) hnd', l1_0 := fun hj => dn_up (h.l1_0 (dn_of hi hj (by decide))), l2_1 := fun hj => dn_up (h.l2_1 (dn_of hi hj (by decide))), l4_3 := fun hj => dn_up (h.l4_3 (dn_of hi hj (by decide))), l5_4 := fun hj => dn_up (h.l5_4 (dn_of hi hj (by decide))), l6_2 := fun hj => dn_up (h.l6_2 (dn_of hi hj (by decide))), l6_5 := fun hj => dn_up (h.l6_5 (dn_of hi hj (by decide))), l7_6 := fun _ => dn_up (hpre _ rfl ⟨6, .data⟩ (by simp) rfl), l9_8 := fun hj => dn_up (h.l9_8 (dn_of hi hj (by decide))), l10_9 := fun hj => dn_up (h.l10_9 (dn_of hi hj (by decide))), l11_7 := fun hj => dn_up (h.l11_7 (dn_of hi hj (by decide))), l11_10 := fun hj => dn_up (h.l11_10 (dn_of hi hj (by decide))), l12_0 := fun hj => dn_up (h.l12_0 (dn_of hi hj (by decide))), l12_1 := fun hj => dn_up (h.l12_1 (dn_of hi hj (by decide))), l12_2 := fun hj => dn_up (h.l12_2 (dn_of hi hj (by decide))), l12_3 := fun hj => dn_up (h.l12_3 (dn_of hi hj (by decide))), l12_4 := fun hj => dn_up (h.l12_4 (dn_of hi hj (by decide))), l12_5 := fun hj => dn_up (h.l12_5 (dn_of hi hj (by decide))), l12_6 := fun hj => dn_up (h.l12_6 (dn_of hi hj (by decide))), l12_7 := fun hj => dn_up (h.l12_7 (dn_of hi hj (by decide))), l12_8 := fun hj => dn_up (h.l12_8 (dn_of hi hj (by decide))), l12_9 := fun hj => dn_up (h.l12_9 (dn_of hi hj (by decide))), l12_10 := fun hj => dn_up (h.l12_10 (dn_of hi hj (by decide))), l12_11 := fun hj => dn_up (h.l12_11 (dn_of hi hj (by decide))), p0 := rp hi h.p0, p1 := rp hi h.p1, p2 := rp hi h.p2, p3 := rp hi h.p3, p4 := rp hi h.p4, p5 := rp hi h.p5, p6 := rp hi h.p6, p7 := fun _ => set_same (by have := h.siz; omega), p8 := rp hi h.p8, p9 := rp hi h.p9, p10 := rp hi h.p10, p11 := rp hi h.p11 }⟩
        · have hi : 8 < d.size := by omega
          have q7 := h.k7
          have hnd' := not_dn hi hnd
          refine wpOp_plain rfl rfl ?_
          go_simp
          exact ⟨_, rfl, { bel := h.bel, siz := (by simpa using h.siz), kp := rk h.kp, k5 := rs h.k5, k7 := rs h.k7, oth := fun hk => h.oth (fun q => hk (dn_up q)), res := fun hj => absurd (h.l12_8 (dn_of hi hj (by decide))) hnd', l1_0 := fun hj => dn_up (h.l1_0 (dn_of hi hj (by decide))), l2_1 := fun hj => dn_up (h.l2_1 (dn_of hi hj (by decide))), l4_3 := fun hj => dn_up (h.l4_3 (dn_of hi hj (by decide))), l5_4 := fun hj => dn_up (h.l5_4 (dn_of hi hj (by decide))), l6_2 := fun hj => dn_up (h.l6_2 (dn_of hi hj (by decide))), l6_5 := fun hj => dn_up (h.l6_5 (dn_of hi hj (by decide))), l7_6 := fun hj => dn_up (h.l7_6 (dn_of hi hj (by decide))), l9_8 := fun hj => dn_up (h.l9_8 (dn_of hi hj (by decide))), l10_9 := fun hj => dn_up (h.l10_9 (dn_of hi hj (by decide))), l11_7 := fun hj => dn_up (h.l11_7 (dn_of hi hj (by decide))), l11_10 := fun hj => dn_up (h.l11_10 (dn_of hi hj (by decide))), l12_0 := fun hj => dn_up (h.l12_0 (dn_of hi hj (by decide))), l12_1 := fun hj => dn_up (h.l12_1 (dn_of hi hj (by decide))), l12_2 := fun hj => dn_up (h.l12_2 (dn_of hi hj (by decide))), l12_3 := fun hj => dn_up (h.l12_3 (dn_of hi hj (by decide))), l12_4 := fun hj => dn_up (h.l12_4 (dn_of hi hj (by decide))), l12_5 := fun hj => dn_up (h.l12_5 (dn_of hi hj (by decide))), l12_6 := fun hj => dn_up (h.l12_6 (dn_of hi hj (by decide))), l12_7 := fun hj => dn_up (h.l12_7 (dn_of hi hj (by decide))), l12_8 := fun hj => dn_up (h.l12_8 (dn_of hi hj (by decide))), l12_9 := fun hj => dn_up (h.l12_9 (dn_of hi hj (by decide))), l12_10 := fun hj => dn_up (h.l12_10 (dn_of hi hj (by decide))), l12_11 := fun hj => dn_up (h.l12_11 (dn_of hi hj (by decide))), p0 := rp hi h.p0, p1 := rp hi h.p1, p2 := rp hi h.p2, p3 := rp hi h.p3, p4 := rp hi h.p4, p5 := rp hi h.p5, p6 := rp hi h.p6, p7 := rp hi h.p7, p8 := fun _ => set_same (by have := h.siz; omega), p9 := rp hi h.p9, p10 := rp hi h.p10, p11 := rp hi h.p11 }⟩
        · have hi : 9 < d.size := by omega
          have e8 := h.p8 (hpre _ rfl ⟨8, .data⟩ (by simp) rfl)
          have hnd' := not_dn hi hnd
          have h7 : ¬ dn d 12 := fun q => hnd' (h.l12_9 q)
          obtain ⟨m0, m1, m2, m3, m4⟩ := five_cells (((h.oth h7).block eb hE).trans HEN.out)
          refine wpOp_plain rfl rfl ?_
          go_simp
          exact ⟨_, rfl, { bel := h.bel, siz := (by simpa using h.siz), kp := rk h.kp, k5 := rs h.k5, k7 := rs h.k7, oth := fun hk => h.oth (fun q => hk (dn_up q)), res := fun hj => absurd (h.l12_9 (dn_of hi hj (by decide))) hnd', l1_0 := fun hj => dn_up (h.l1_0 (dn_of hi hj (by decide))), l2_1 := fun hj => dn_up (h.l2_1 (dn_of hi hj (by decide))), l4_3 := fun hj => dn_up (h.l4_3 (dn_of hi hj (by decide))), l5_4 := fun hj => dn_up (h.l5_4 (dn_of hi hj (by decide))), l6_2 := fun hj => dn_up (h.l6_2 (dn_of hi hj (by decide))), l6_5 := fun hj => dn_up (h.l6_5 (dn_of hi hj (by decide))), l7_6 := fun hj => dn_up (h.l7_6 (dn_of hi hj (by decide))), l9_8 := fun _ => dn_up (hpre _ rfl ⟨8, .data⟩ (by simp) rfl), l10_9 := fun hj => dn_up (h.l10_9 (dn_of hi hj (by decide))), l11_7 := fun hj => dn_up (h.l11_7 (dn_of hi hj (by decide))), l11_10 := fun hj => dn_up (h.l11_10 (dn_of hi hj (by decide))), l12_0 := fun hj => dn_up (h.l12_0 (dn_of hi hj (by decide))), l12_1 := fun hj => dn_up (h.l12_1 (dn_of hi hj (by decide))), l12_2 := fun hj => dn_up (h.l12_2 (dn_of hi hj (by decide))), l12_3 := fun hj => dn_up (h.l12_3 (dn_of hi hj (by decide))), l12_4 := fun hj => dn_up (h.l12_4 (dn_of hi hj (by decide))), l12_5 := fun hj => dn_up (h.l12_5 (dn_of hi hj (by decide))), l12_6 := fun hj => dn_up (h.l12_6 (dn_of hi hj (by decide))), l12_7 := fun hj => dn_up (h.l12_7 (dn_of hi hj (by decide))), l12_8 := fun hj => dn_up (h.l12_8 (dn_of hi hj (by decide))), l12_9 := fun hj => dn_up (h.l12_9 (dn_of hi hj (by decide))), l12_10 := fun hj => dn_up (h.l12_10 (dn_of hi hj (by decide))), l12_11 := fun hj => dn_up (h.l12_11 (dn_of hi hj (by decide))), p0 := rp hi h.p0, p1 := rp hi h.p1, p2 := rp hi h.p2, p3 := rp hi h.p3, p4 := rp hi h.p4, p5 := rp hi h.p5, p6 := rp hi h.p6, p7 := rp hi h.p7, p8 := rp hi h.p8, p9 := fun _ => set_same (by have := h.siz; omega), p10 := rp hi h.p10, p11 := rp hi h.p11 }⟩
        · have hi : 10 < d.size := by omega
          have hnd' := not_dn hi hnd
          have d9 : dn d 9 := hpre _ rfl ⟨9, .data⟩ (by simp) rfl
          have e9 := h.p9 d9
          refine wpOp_plain rfl rfl ?_
          go_simp
          refine (HIH.out wc).mono ?_
          rintro e1 w1 ⟨rfl, rfl⟩
          exact ⟨_, rfl, { bel := h.bel, siz := (by simpa using h.siz), kp := rk h.kp, k5 := rs h.k5, k7 := rs h.k7, oth := fun hk => h.oth (fun q => hk (dn_up q)), res := fun hj => absurd (h.l12_10 (dn_of hi hj (by decide))) hnd', l1_0 := fun hj => dn_up (h.l1_0 (dn_of hi hj (by decide))), l2_1 := fun hj => dn_up (h.l2_1 (dn_of hi hj (by decide))), l4_3 := fun hj => dn_up (h.l4_3 (dn_of hi hj (by decide))), l5_4 := fun hj => dn_up (h.l5_4 (dn_of hi hj (by decide))), l6_2 := fun hj => dn_up (h.l6_2 (dn_of hi hj (by decide))), l6_5 := fun hj => dn_up (h.l6_5 (dn_of hi hj (by decide))), l7_6 := fun hj => dn_up (h.l7_6 (dn_of hi hj (by decide))), l9_8 := fun hj => dn_up (h.l9_8 (dn_of hi hj (by decide))), l10_9 := fun _ => dn_up (hpre _ rfl ⟨9, .data⟩ (by simp) rfl), l11_7 := fun hj => dn_up (h.l11_7 (dn_of hi hj (by decide))), l11_10 := fun hj => dn_up (h.l11_10 (dn_of hi hj (by decide))), l12_0 := fun hj => dn_up (h.l12_0 (dn_of hi hj (by decide))), l12_1 := fun hj => dn_up (h.l12_1 (dn_of hi hj (by decide))), l12_2 := fun hj => dn_up (h.l12_2 (dn_of hi hj (by decide))), l12_3 := fun hj => dn_up (h.l12_3 (dn_of hi hj (by decide))), l12_4 := fun hj => dn_up (h.l12_4 (dn_of hi hj (by decide))), l12_5 := fun hj => dn_up (h.l12_5 (dn_of hi hj (by decide))), l12_6 := fun hj => dn_up (h.l12_6 (dn_of hi hj (by decide))), l12_7 := fun hj => dn_up (h.l12_7 (dn_of hi hj (by decide))), l12_8 := fun hj => dn_up (h.l12_8 (dn_of hi hj (by decide))), l12_9 := fun hj => dn_up (h.l12_9 (dn_of hi hj (by decide))), l12_10 := fun hj => dn_up (h.l12_10 (dn_of hi hj (by decide))), l12_11 := fun hj => dn_up (h.l12_11 (dn_of hi hj (by decide))), p0 := rp hi h.p0, p1 := rp hi h.p1, p2 := rp hi h.p2, p3 := rp hi h.p3, p4 := rp hi h.p4, p5 := rp hi h.p5, p6 := rp hi h.p6, p7 := rp hi h.p7, p8 := rp hi h.p8, p9 := rp hi h.p9, p10 := fun _ => set_same (by have := h.siz; omega), p11 := rp hi h.p11 }⟩
        · have hi : 11 < d.size := by omega
          have e7 := h.p7 (hpre _ rfl ⟨7, .data⟩ (by simp) rfl)
          have e10 := h.p10 (hpre _ rfl ⟨10, .data⟩ (by simp) rfl)
          have hnd' := not_dn hi hnd
          have hz : ¬ 9223372036854775807 < s.code.size + 1 + iw.size + 1 + ih.size := by omega
          refine wpOp_plain rfl rfl ?_
          go_simp
          exact ⟨_, rfl, { bel := h.bel, siz := (by simpa using h.siz), kp := rk h.kp, k5 := rs h.k5, k7 := rs h.k7, oth := fun hk => h.oth (fun q => hk (dn_up q)), res := fun hj => absurd (h.l12_11 (dn_of hi hj (by decide))) hnd', l1_0 := fun hj => dn_up (h.l1_0 (dn_of hi hj (by decide))), l2_1 := fun hj => dn_up (h.l2_1 (dn_of hi hj (by decide))), l4_3 := fun hj => dn_up (h.l4_3 (dn_of hi hj (by decide))), l5_4 := fun hj => dn_up (h.l5_4 (dn_of hi hj (by decide))), l6_2 := fun hj => dn_up (h.l6_2 (dn_of hi hj (by decide))), l6_5 := fun hj => dn_up (h.l6_5 (dn_of hi hj (by decide))), l7_6 := fun hj => dn_up (h.l7_6 (dn_of hi hj (by decide))), l9_8 := fun hj => dn_up (h.l9_8 (dn_of hi hj (by decide))), l10_9 := fun hj => dn_up (h.l10_9 (dn_of hi hj (by decide))), l11_7 := fun _ => dn_up (hpre _ rfl ⟨7, .data⟩ (by simp) rfl), l11_10 := fun _ => dn_up (hpre _ rfl ⟨10, .data⟩ (by simp) rfl), l12_0 := fun hj => dn_up (h.l12_0 (dn_of hi hj (by decide))), l12_1 := fun hj => dn_up (h.l12_1 (dn_of hi hj (by decide))), l12_2 := fun hj => dn_up (h.l12_2 (dn_of hi hj (by decide))), l12_3 := fun hj => dn_up (h.l12_3 (dn_of hi hj (by decide))), l12_4 := fun hj => dn_up (h.l12_4 (dn_of hi hj (by decide))), l12_5 := fun hj => dn_up (h.l12_5 (dn_of hi hj (by decide))), l12_6 := fun hj => dn_up (h.l12_6 (dn_of hi hj (by decide))), l12_7 := fun hj => dn_up (h.l12_7 (dn_of hi hj (by decide))), l12_8 := fun hj => dn_up (h.l12_8 (dn_of hi hj (by decide))), l12_9 := fun hj => dn_up (h.l12_9 (dn_of hi hj (by decide))), l12_10 := fun hj => dn_up (h.l12_10 (dn_of hi hj (by decide))), l12_11 := fun hj => dn_up (h.l12_11 (dn_of hi hj (by decide))), p0 := rp hi h.p0, p1 := rp hi h.p1, p2 := rp hi h.p2, p3 := rp hi h.p3, p4 := rp hi h.p4, p5 := rp hi h.p5, p6 := rp hi h.p6, p7 := rp hi h.p7, p8 := rp hi h.p8, p9 := rp hi h.p9, p10 := rp hi h.p10, p11 := fun _ => set_same (by have := h.siz; omega) }⟩
        · have hi : 12 < d.size := by omega
          have hnd' := not_dn hi hnd
          have d11 : dn d 11 := hpre _ rfl ⟨11, .data⟩ (by simp) rfl
          have d7 : dn d 7 := h.l11_7 d11
          have d10 : dn d 10 := h.l11_10 d11
          have d6 : dn d 6 := h.l7_6 d7
          have d9 : dn d 9 := h.l10_9 d10
          have d2 : dn d 2 := h.l6_2 d6
          have d5 : dn d 5 := h.l6_5 d6
          have d8 : dn d 8 := h.l9_8 d9
          have d1 : dn d 1 := h.l2_1 d2
          have d4 : dn d 4 := h.l5_4 d5
          have d0 : dn d 0 := h.l1_0 d1
          have d3 : dn d 3 := h.l4_3 d4
          have e11 := h.p11 d11
          have q5 := h.k5
          have hot := h.oth hnd'
          have hos := hot.size
          refine wpOp_plain rfl rfl ?_
          go_simp
          refine (gWrite_any bb bb _ _ wc (isB_below HIB.out hot) (by have := HSZ.out; omega) (by omega)).mono ?_
          rintro e1 w1 ⟨rfl, hib, hb, hsd⟩
          exact ⟨_, rfl, { bel := (hot.mono (by omega)).trans hb, siz := (by simpa using h.siz), kp := rk h.kp, k5 := rs h.k5, k7 := rs h.k7, oth := fun hk => absurd (dn_self hi) hk, res := fun _ => ⟨hib, (Side.of hot).trans hsd⟩, l1_0 := fun hj => dn_up (h.l1_0 (dn_of hi hj (by decide))), l2_1 := fun hj => dn_up (h.l2_1 (dn_of hi hj (by decide))), l4_3 := fun hj => dn_up (h.l4_3 (dn_of hi hj (by decide))), l5_4 := fun hj => dn_up (h.l5_4 (dn_of hi hj (by decide))), l6_2 := fun hj => dn_up (h.l6_2 (dn_of hi hj (by decide))), l6_5 := fun hj => dn_up (h.l6_5 (dn_of hi hj (by decide))), l7_6 := fun hj => dn_up (h.l7_6 (dn_of hi hj (by decide))), l9_8 := fun hj => dn_up (h.l9_8 (dn_of hi hj (by decide))), l10_9 := fun hj => dn_up (h.l10_9 (dn_of hi hj (by decide))), l11_7 := fun hj => dn_up (h.l11_7 (dn_of hi hj (by decide))), l11_10 := fun hj => dn_up (h.l11_10 (dn_of hi hj (by decide))), l12_0 := fun _ => dn_up d0, l12_1 := fun _ => dn_up d1, l12_2 := fun _ => dn_up d2, l12_3 := fun _ => dn_up d3, l12_4 := fun _ => dn_up d4, l12_5 := fun _ => dn_up d5, l12_6 := fun _ => dn_up d6, l12_7 := fun _ => dn_up d7, l12_8 := fun _ => dn_up d8, l12_9 := fun _ => dn_up d9, l12_10 := fun _ => dn_up d10, l12_11 := fun _ => dn_up d11, p0 := rp hi h.p0, p1 := rp hi h.p1, p2 := rp hi h.p2, p3 := rp hi h.p3, p4 := rp hi h.p4, p5 := rp hi h.p5, p6 := rp hi h.p6, p7 := rp hi h.p7, p8 := rp hi h.p8, p9 := rp hi h.p9, p10 := rp hi h.p10, p11 := rp hi h.p11 }⟩
      case gends =>
        intro d a wc hd hI hall
        obtain ⟨t, rfl, h⟩ := hI
        have hdn : ∀ j, j < 13 → dn d j := fun j hj => dn_all hd hall hj
        have hd : ∀ j, (_ : j < 13 := by decide) → dn d j := fun j hj => hdn j hj
        obtain ⟨t40, x40⟩ : ∃ v, t[40]? = some v := ⟨_, Array.getElem?_eq_getElem (by have := h.siz; omega)⟩
        have hfe := frame_eq [(28, _), (29, _), (30, _), (31, _), (32, _), (33, _), (34, _), (35, _), (36, _), (37, _), (38, _), (39, _), (40, _)] (h.siz.trans rfl) h.kp rfl ⟨h.p0 (hd 0), h.p1 (hd 1), h.p2 (hd 2), h.p3 (hd 3), h.p4 (hd 4), h.p5 (hd 5), h.p6 (hd 6), h.p7 (hd 7), h.p8 (hd 8), h.p9 (hd 9), h.p10 (hd 10), h.p11 (hd 11), x40, trivial⟩
        simp only [List.foldl_cons, List.foldl_nil, List.setIfInBounds_toArray, List.set_cons_succ, List.set_cons_zero] at hfe
        have hbc := h.bel
        subst hfe
        have hres := h.res (hd 12)
        clear h hdn hall hd
        have hres' := hres.1
        have hside := hres.2
        have hbc' := hbc
        clear hbc hres
        rename World => w9
        have HRS : Hid (Lib.IsBuilder 106 5 bb bb (Lib.byteCells (l0 ++ (s.code.data.toList ++ 32 :: (Lib.itoa s.wide ++ 120 :: Lib.itoa s.high)))) w9) := Lib.hid (by rw [← HLP.out]; exact hres')
        have HB9 := Lib.hid (HBR0.out.trans hbc')
        have HEN9 := Lib.hid (hside.2 eb _ _ _ (by omega) (by decide) HEN.out)
        have hs9 : W0.heap.size ≤ w9.heap.size := hside.1
        obtain ⟨m0, m1, m2, m3, m4⟩ := five_cells HEN9.out
        clear hres' hside hbc' m0 m1 m2 m4 hiw hih hcz HIW HIH HSZ HIB HIB0
        have HZL := Lib.hid (Sg.lineP_len HSF.out 0)
        have HZE : Hid (s.even = true → Sg.lineP s 0 = s.code.data.toList ++ 32 :: (Lib.itoa s.wide ++ 120 :: Lib.itoa s.high) ++ [32, 61]) := Lib.hid Sg.lineP_even
        have HZO : Hid (s.even = false → Sg.lineP s 0 = s.code.data.toList ++ 32 :: (Lib.itoa s.wide ++ 120 :: Lib.itoa s.high)) := Lib.hid Sg.lineP_odd
        go_upto_if 42 with fail
        go_cut [] (fun wc => Lib.IsBuilder 106 5 bb bb (Lib.byteCells (l0 ++ Sg.lineP s 0)) wc ∧ Below bb w9 wc ∧ Side bb w9 wc)
        case first =>
          cases hev : s.even
          · have HV := Lib.hid (HZO.out hev)
            rw [hev] at m3
            go_wp2_with fail
            go_meet
            exact ⟨by rw [HV.out]; exact HRS.out, Below.refl _ _, Side.refl _ _⟩
          · have HV := Lib.hid (HZE.out hev)
            rw [hev] at m3
            go_wp2_with fail
            refine (gWrite_any bb bb _ _ _ HRS.out (by have h1 := HZL.out; rw [HV.out] at h1; simp only [List.length_append, List.length_cons, List.length_nil] at h1 ⊢; show _ + 2 ≤ _; omega) (by omega)).mono ?_
            rintro e w10 ⟨rfl, hib10, hb10, hsd10⟩
            go_wp2_with fail
            go_meet
            exact ⟨by rw [HV.out, ← List.append_assoc]; exact hib10, hb10, hsd10⟩
        case rest =>
          obtain ⟨hib10, hb10, hsd10⟩ := hcut
          have HIB10 := Lib.hid hib10
          have HB10 := Lib.hid (HB9.out.trans hb10)
          have HEN10 := Lib.hid (hsd10.2 eb _ _ _ (by omega) (by decide) HEN9.out)
          obtain ⟨n0, n1, n2, n3, n4⟩ := five_cells HEN10.out
          have hs10 : w9.heap.size ≤ wc.heap.size := hsd10.1
          clear hib10 hb10 hsd10 m3 n0 n1 n2 n3
          go_wp2_with fail
          clear n4
          go_loopg [47] s.values.length (fun g i wr => ∃ j : Nat, j ≤ s.values.length ∧ g = s.values.length - j ∧ i = .int .i64 j ∧ Lib.IsBuilder 106 5 bb bb (Lib.byteCells (l0 ++ Sg.lineP s j)) wr ∧ Below bb wc wr)
          case atStart => exact ⟨0, Nat.zero_le _, rfl, rfl, HIB10.out, Below.refl _ _⟩
          case round =>
            obtain ⟨j, hj, rfl, rfl, hibj, hbj⟩ := hrel
            rename World => wj
            have HIBJ := Lib.hid hibj
            have HBC := Lib.hid hbj
            have HBJ := Lib.hid (HB10.out.trans hbj)
            have hsj : wc.heap.size ≤ wj.heap.size := hbj.size
            have HWJ : Hid (Below w.heap.size w wj) := Lib.hid (HB5.out.trans (HBJ.out.mono (Nat.le_of_lt hwb)))
            clear hibj hbj HBW HEN HW0 HBR0 HLP HRS HZL HZE HZO
            by_cases hjl : j < s.values.length
            · obtain ⟨b2, off2, rfl, hb2, hcell⟩ := HRD.out.four (by omega)
              obtain ⟨x, hx⟩ : ∃ x, s.values[j]? = some x := ⟨_, List.getElem?_eq_getElem hjl⟩
              obtain ⟨g0, g1, g2, g3⟩ := hcell j x hx
              have f0 := (HWJ.out.cell (p := ⟨b2, off2 + j * 4, none⟩) hb2).trans g0
              have f1 := (HWJ.out.cell (p := ⟨b2, off2 + j * 4 + 1, none⟩) hb2).trans g1
              have f2 := (HWJ.out.cell (p := ⟨b2, off2 + j * 4 + 2, none⟩) hb2).trans g2
              have f3 := (HWJ.out.cell (p := ⟨b2, off2 + j * 4 + 3, none⟩) hb2).trans g3
              have HXJ := Lib.hid hx
              have HXF := Lib.hid (HSF.out.vs x (List.mem_of_getElem? hx))
              have hjI : (0 : Int) ≤ (j : Int) := by omega
              have hjJ : (j : Int) < (s.values.length : Int) := by omega
              clear hcell hx g0 g1 g2 g3
              go_upto_region 15 with fail
              obtain ⟨ki, kb, hki, hkI0, hkI3, HLB, hkb⟩ : ∃ (ki : Nat) (kb : UInt8), x.kind = (ki : Int) + 1 ∧ (0 : Int) ≤ (ki : Int) ∧ (ki : Int) < 3 ∧ Hid (∀ W, Below w.heap.size w W → W.cell? ⟨0, ki, none⟩ = some (.int .u8 (kb.toNat : Int))) ∧ Sg.kindL x.kind = kb := by
                rcases HXF.out.k with h | h | h
                · exact ⟨0, 115, by rw [h]; rfl, by omega, by omega, Lib.hid fun W hW => (HGL.out W hW).l0, by rw [h]; rfl⟩
                · exact ⟨1, 119, by rw [h]; rfl, by omega, by omega, Lib.hid fun W hW => (HGL.out W hW).l1, by rw [h]; rfl⟩
                · exact ⟨2, 99, by rw [h]; rfl, by omega, by omega, Lib.hid fun W hW => (HGL.out W hW).l2, by rw [h]; rfl⟩
              obtain ⟨W0, hW0⟩ : ∃ W, W = wj.alloc (.cells #[.int .i64 x.kind, .string x.text, .int .i64 x.lo, .int .i64 x.hi] 60) := ⟨_, rfl⟩
              obtain ⟨eb, heb⟩ : ∃ e, e = wj.heap.size := ⟨_, rfl⟩
              have HBV : Hid (Below wj.heap.size wj W0) := Lib.hid (by rw [hW0]; exact (Below.refl _ _).alloc (Nat.le_refl _) _)
              have HEN : Hid (W0.heap[eb]? = some (.cells #[.int .i64 ((ki : Int) + 1), .string x.text, .int .i64 x.lo, .int .i64 x.hi] 60 (0, 0))) := Lib.hid (by rw [← hki, hW0, heb]; exact heap_alloc_new _ _)
              have hE : eb < W0.heap.size := by rw [hW0, heb]; simp
              have hbW0 : bb < W0.heap.size := by have := HBV.out.size; omega
              have HW0 := Lib.hid (HWJ.out.trans (HBV.out.mono HWJ.out.size))
              have HIB0 := Lib.hid (isB_below HIBJ.out HBV.out)
              rw [← hW0, ← heb]
              obtain ⟨l1, hl1⟩ : ∃ l1, l1 = l0 ++ Sg.lineP s j := ⟨_, rfl⟩
              rw [← hl1] at HIB0
              have HIB := HIB0
              have HL1 := Lib.hid hl1
              have hll1 : l1.length ≤ 61000 := by rw [hl1, List.length_append]; have := Sg.lineP_len HSF.out j; omega
              have hxz : x.text.size ≤ 8 := (Sg.text_all HXF.out.t).2.2
              have HIL := Lib.hid (fun W => gItoa_small x.lo (by have := HXF.out.lo; omega) W)
              have HIH := Lib.hid (fun W => gItoa_small x.hi (by have := HXF.out.hi; omega) W)
              have HVP : Hid (((⟨#[32]⟩ : ByteArray) ++ (⟨#[kb]⟩ : ByteArray) ++ (⟨#[58]⟩ : ByteArray) ++ x.text ++ (⟨#[64]⟩ : ByteArray) ++ Sg.bs (Lib.itoa x.lo) ++ (⟨#[45]⟩ : ByteArray) ++ Sg.bs (Lib.itoa x.hi)).data.toList = 32 :: Sg.valW x) := Lib.hid (by rw [Sg.value_bytes, ← hkb]; rfl)
              have hil0 : (Lib.itoa x.lo).length ≤ 1 := Sg.itoa_one (by have := HXF.out.lo; omega)
              have hih0 : (Lib.itoa x.hi).length ≤ 1 := Sg.itoa_one (by have := HXF.out.hi; omega)
              obtain ⟨il, hile⟩ : ∃ s', s' = Sg.bs (Lib.itoa x.lo) := ⟨_, rfl⟩
              obtain ⟨ih, hihe⟩ : ∃ s', s' = Sg.bs (Lib.itoa x.hi) := ⟨_, rfl⟩
              have hil : il.size ≤ 1 := by rw [hile]; exact hil0
              have hih : ih.size ≤ 1 := by rw [hihe]; exact hih0
              rw [← hile] at HIL HVP
              rw [← hihe] at HIH HVP
              have HSZ : Hid (l1.length + ((⟨#[32]⟩ : ByteArray) ++ (⟨#[kb]⟩ : ByteArray) ++ (⟨#[58]⟩ : ByteArray) ++ x.text ++ (⟨#[64]⟩ : ByteArray) ++ il ++ (⟨#[45]⟩ : ByteArray) ++ ih).size ≤ 10000000) := Lib.hid (by rw [Sg.value_size]; omega)
              have HKE : Hid (x.kind = (ki : Int) + 1) := Lib.hid hki
              rw [hki]
              clear hl1 hW0 heb f0 f1 f2 f3 hile hihe hil0 hih0 hki hkb HIB0
              refine wp_region_inv2T (fun T0 => FmvI T0 W0 bb eb ki kb l1 x.text il ih x.lo x.hi) (by kernel_rfl) (by kernel_rfl) ?g0v ?gstepv ?gendv
              case g0v =>
                have hno : ∀ j, ¬ dn (Array.replicate 23 false) j := by
                  intro j; unfold dn; by_cases hj : j < 23 <;> simp [Array.getD, hj]
                have na : ∀ {j : Nat} {Z : Prop}, dn (Array.replicate 23 false) j → Z := fun hj => absurd hj (hno _)
                exact ⟨_, rfl, { bel := (Below.refl _ _).drew, siz := rfl, kp := fun _ _ => rfl, k5 := rfl, k9 := rfl, p0 := na, p1 := na, p2 := na, p3 := na, p4 := na, p6 := na, p7 := na, p8 := na, p9 := na, p10 := na, p11 := na, p12 := na, p13 := na, p14 := na, p15 := na, p16 := na, p17 := na, p18 := na, p19 := na, p20 := na, p21 := na, oth := fun _ => (Below.refl _ _).drew, sl := fun hj => absurd hj (hno _), res := fun hj => absurd hj (hno _), l1_0 := fun hj => absurd hj (hno _), l2_1 := fun hj => absurd hj (hno _), l3_2 := fun hj => absurd hj (hno _), l4_3 := fun hj => absurd hj (hno _), l5_4 := fun hj => absurd hj (hno _), l6_5 := fun hj => absurd hj (hno _), l7_6 := fun hj => absurd hj (hno _), l8_7 := fun hj => absurd hj (hno _), l10_9 := fun hj => absurd hj (hno _), l11_8 := fun hj => absurd hj (hno _), l11_10 := fun hj => absurd hj (hno _), l12_11 := fun hj => absurd hj (hno _), l14_13 := fun hj => absurd hj (hno _), l15_14 := fun hj => absurd hj (hno _), l16_12 := fun hj => absurd hj (hno _), l16_15 := fun hj => absurd hj (hno _), l17_16 := fun hj => absurd hj (hno _), l19_18 := fun hj => absurd hj (hno _), l20_19 := fun hj => absurd hj (hno _), l21_17 := fun hj => absurd hj (hno _), l21_20 := fun hj => absurd hj (hno _), l22_0 := fun hj => absurd hj (hno _), l22_1 := fun hj => absurd hj (hno _), l22_2 := fun hj => absurd hj (hno _), l22_3 := fun hj => absurd hj (hno _), l22_4 := fun hj => absurd hj (hno _), l22_5 := fun hj => absurd hj (hno _), l22_6 := fun hj => absurd hj (hno _), l22_7 := fun hj => absurd hj (hno _), l22_8 := fun hj => absurd hj (hno _), l22_9 := fun hj => absurd hj (hno _), l22_10 := fun hj => absurd hj (hno _), l22_11 := fun hj => absurd hj (hno _), l22_12 := fun hj => absurd hj (hno _), l22_13 := fun hj => absurd hj (hno _), l22_14 := fun hj => absurd hj (hno _), l22_15 := fun hj => absurd hj (hno _), l22_16 := fun hj => absurd hj (hno _), l22_17 := fun hj => absurd hj (hno _), l22_18 := fun hj => absurd hj (hno _), l22_19 := fun hj => absurd hj (hno _), l22_20 := fun hj => absurd hj (hno _), l22_21 := fun hj => absurd hj (hno _) }⟩
              case gstepv =>
                intro T0 d a wc i hd hI hi
                obtain ⟨hlt, hnd, hpre⟩ := mem_ready hi
                have hd' : d.size = 23 := hd
                have hin : i < 23 := hlt
                clear hi hd hlt
                obtain ⟨t, rfl, h⟩ := hI
                have hcs : i = 0 ∨ i = 1 ∨ i = 2 ∨ i = 3 ∨ i = 4 ∨ i = 5 ∨ i = 6 ∨ i = 7 ∨ i = 8 ∨ i = 9 ∨ i = 10 ∨ i = 11 ∨ i = 12 ∨ i = 13 ∨ i = 14 ∨ i = 15 ∨ i = 16 ∨ i = 17 ∨ i = 18 ∨ i = 19 ∨ i = 20 ∨ i = 21 ∨ i = 22 := by omega
                rcases hcs with rfl | rfl | rfl | rfl | rfl | rfl | rfl | rfl | rfl | rfl | rfl | rfl | rfl | rfl | rfl | rfl | rfl | rfl | rfl | rfl | rfl | rfl | rfl
                · have hi : 0 < d.size := by omega
                  have q9 := h.k9
                  have hnd' := not_dn hi hnd
                  refine wpOp_plain rfl rfl ?_
                  go_simp
                  exact ⟨_, rfl, { bel := h.bel, siz := (by simpa using h.siz), kp := rk h.kp, k5 := rs h.k5, k9 := rs h.k9, oth := fun hk => h.oth (fun q => hk (dn_up q)), sl := fun hj hk => by obtain ⟨g, e1, e2, e3⟩ := h.sl (dn_of hi hj (by decide)) (fun q => hk (dn_up q)); exact ⟨g, (set_other (by decide)).trans e1, e2, e3⟩, res := fun hj => absurd (h.l22_0 (dn_of hi hj (by decide))) hnd', l1_0 := fun hj => dn_up (h.l1_0 (dn_of hi hj (by decide))), l2_1 := fun hj => dn_up (h.l2_1 (dn_of hi hj (by decide))), l3_2 := fun hj => dn_up (h.l3_2 (dn_of hi hj (by decide))), l4_3 := fun hj => dn_up (h.l4_3 (dn_of hi hj (by decide))), l5_4 := fun hj => dn_up (h.l5_4 (dn_of hi hj (by decide))), l6_5 := fun hj => dn_up (h.l6_5 (dn_of hi hj (by decide))), l7_6 := fun hj => dn_up (h.l7_6 (dn_of hi hj (by decide))), l8_7 := fun hj => dn_up (h.l8_7 (dn_of hi hj (by decide))), l10_9 := fun hj => dn_up (h.l10_9 (dn_of hi hj (by decide))), l11_8 := fun hj => dn_up (h.l11_8 (dn_of hi hj (by decide))), l11_10 := fun hj => dn_up (h.l11_10 (dn_of hi hj (by decide))), l12_11 := fun hj => dn_up (h.l12_11 (dn_of hi hj (by decide))), l14_13 := fun hj => dn_up (h.l14_13 (dn_of hi hj (by decide))), l15_14 := fun hj => dn_up (h.l15_14 (dn_of hi hj (by decide))), l16_12 := fun hj => dn_up (h.l16_12 (dn_of hi hj (by decide))), l16_15 := fun hj => dn_up (h.l16_15 (dn_of hi hj (by decide))), l17_16 := fun hj => dn_up (h.l17_16 (dn_of hi hj (by decide))), l19_18 := fun hj => dn_up (h.l19_18 (dn_of hi hj (by decide))), l20_19 := fun hj => dn_up (h.l20_19 (dn_of hi hj (by decide))), l21_17 := fun hj => dn_up (h.l21_17 (dn_of hi hj (by decide))), l21_20 := fun hj => dn_up (h.l21_20 (dn_of hi hj (by decide))), l22_0 := fun hj => dn_up (h.l22_0 (dn_of hi hj (by decide))), l22_1 := fun hj => dn_up (h.l22_1 (dn_of hi hj (by decide))), l22_2 := fun hj => dn_up (h.l22_2 (dn_of hi hj (by decide))), l22_3 := fun hj => dn_up (h.l22_3 (dn_of hi hj (by decide))), l22_4 := fun hj => dn_up (h.l22_4 (dn_of hi hj (by decide))), l22_5 := fun hj => dn_up (h.l22_5 (dn_of hi hj (by decide))), l22_6 := fun hj => dn_up (h.l22_6 (dn_of hi hj (by decide))), l22_7 := fun hj => dn_up (h.l22_7 (dn_of hi hj (by decide))), l22_8 := fun hj => dn_up (h.l22_8 (dn_of hi hj (by decide))), l22_9 := fun hj => dn_up (h.l22_9 (dn_of hi hj (by decide))), l22_10 := fun hj => dn_up (h.l22_10 (dn_of hi hj (by decide))), l22_11 := fun hj => dn_up (h.l22_11 (dn_of hi hj (by decide))), l22_12 := fun hj => dn_up (h.l22_12 (dn_of hi hj (by decide))), l22_13 := fun hj => dn_up (h.l22_13 (dn_of hi hj (by decide))), l22_14 := fun hj => dn_up (h.l22_14 (dn_of hi hj (by decide))), l22_15 := fun hj => dn_up (h.l22_15 (dn_of hi hj (by decide))), l22_16 := fun hj => dn_up (h.l22_16 (dn_of hi hj (by decide))), l22_17 := fun hj => dn_up (h.l22_17 (dn_of hi hj (by decide))), l22_18 := fun hj => dn_up (h.l22_18 (dn_of hi hj (by decide))), l22_19 := fun hj => dn_up (h.l22_19 (dn_of hi hj (by decide))), l22_20 := fun hj => dn_up (h.l22_20 (dn_of hi hj (by decide))), l22_21 := fun hj => dn_up (h.l22_21 (dn_of hi hj (by decide))), p0 := fun _ => set_same (by have := h.siz; omega), p1 := rp hi h.p1, p2 := rp hi h.p2, p3 := rp hi h.p3, p4 := rp hi h.p4, p6 := rp hi h.p6, p7 := rp hi h.p7, p8 := rp hi h.p8, p9 := rp hi h.p9, p10 := rp hi h.p10, p11 := rp hi h.p11, p12 := rp hi h.p12, p13 := rp hi h.p13, p14 := rp hi h.p14, p15 := rp hi h.p15, p16 := rp hi h.p16, p17 := rp hi h.p17, p18 := rp hi h.p18, p19 := rp hi h.p19, p20 := rp hi h.p20, p21 := rp hi h.p21 }⟩
                · have hi : 1 < d.size := by omega
                  have e0 := h.p0 (hpre _ rfl ⟨0, .data⟩ (by simp) rfl)
                  have hnd' := not_dn hi hnd
                  have h7 : ¬ dn d 22 := fun q => hnd' (h.l22_1 q)
                  obtain ⟨m0, m1, m2, m3⟩ := four_cellsV (((h.oth h7).block eb hE).trans HEN.out)
                  refine wpOp_plain rfl rfl ?_
                  go_simp
                  exact ⟨_, rfl, { bel := h.bel, siz := (by simpa using h.siz), kp := rk h.kp, k5 := rs h.k5, k9 := rs h.k9, oth := fun hk => h.oth (fun q => hk (dn_up q)), sl := fun hj hk => by obtain ⟨g, e1, e2, e3⟩ := h.sl (dn_of hi hj (by decide)) (fun q => hk (dn_up q)); exact ⟨g, (set_other (by decide)).trans e1, e2, e3⟩, res := fun hj => absurd (h.l22_1 (dn_of hi hj (by decide))) hnd', l1_0 := fun _ => dn_up (hpre _ rfl ⟨0, .data⟩ (by simp) rfl), l2_1 := fun hj => dn_up (h.l2_1 (dn_of hi hj (by decide))), l3_2 := fun hj => dn_up (h.l3_2 (dn_of hi hj (by decide))), l4_3 := fun hj => dn_up (h.l4_3 (dn_of hi hj (by decide))), l5_4 := fun hj => dn_up (h.l5_4 (dn_of hi hj (by decide))), l6_5 := fun hj => dn_up (h.l6_5 (dn_of hi hj (by decide))), l7_6 := fun hj => dn_up (h.l7_6 (dn_of hi hj (by decide))), l8_7 := fun hj => dn_up (h.l8_7 (dn_of hi hj (by decide))), l10_9 := fun hj => dn_up (h.l10_9 (dn_of hi hj (by decide))), l11_8 := fun hj => dn_up (h.l11_8 (dn_of hi hj (by decide))), l11_10 := fun hj => dn_up (h.l11_10 (dn_of hi hj (by decide))), l12_11 := fun hj => dn_up (h.l12_11 (dn_of hi hj (by decide))), l14_13 := fun hj => dn_up (h.l14_13 (dn_of hi hj (by decide))), l15_14 := fun hj => dn_up (h.l15_14 (dn_of hi hj (by decide))), l16_12 := fun hj => dn_up (h.l16_12 (dn_of hi hj (by decide))), l16_15 := fun hj => dn_up (h.l16_15 (dn_of hi hj (by decide))), l17_16 := fun hj => dn_up (h.l17_16 (dn_of hi hj (by decide))), l19_18 := fun hj => dn_up (h.l19_18 (dn_of hi hj (by decide))), l20_19 := fun hj => dn_up (h.l20_19 (dn_of hi hj (by decide))), l21_17 := fun hj => dn_up (h.l21_17 (dn_of hi hj (by decide))), l21_20 := fun hj => dn_up (h.l21_20 (dn_of hi hj (by decide))), l22_0 := fun hj => dn_up (h.l22_0 (dn_of hi hj (by decide))), l22_1 := fun hj => dn_up (h.l22_1 (dn_of hi hj (by decide))), l22_2 := fun hj => dn_up (h.l22_2 (dn_of hi hj (by decide))), l22_3 := fun hj => dn_up (h.l22_3 (dn_of hi hj (by decide))), l22_4 := fun hj => dn_up (h.l22_4 (dn_of hi hj (by decide))), l22_5 := fun hj => dn_up (h.l22_5 (dn_of hi hj (by decide))), l22_6 := fun hj => dn_up (h.l22_6 (dn_of hi hj (by decide))), l22_7 := fun hj => dn_up (h.l22_7 (dn_of hi hj (by decide))), l22_8 := fun hj => dn_up (h.l22_8 (dn_of hi hj (by decide))), l22_9 := fun hj => dn_up (h.l22_9 (dn_of hi hj (by decide))), l22_10 := fun hj => dn_up (h.l22_10 (dn_of hi hj (by decide))), l22_11 := fun hj => dn_up (h.l22_11 (dn_of hi hj (by decide))), l22_12 := fun hj => dn_up (h.l22_12 (dn_of hi hj (by decide))), l22_13 := fun hj => dn_up (h.l22_13 (dn_of hi hj (by decide))), l22_14 := fun hj => dn_up (h.l22_14 (dn_of hi hj (by decide))), l22_15 := fun hj => dn_up (h.l22_15 (dn_of hi hj (by decide))), l22_16 := fun hj => dn_up (h.l22_16 (dn_of hi hj (by decide))), l22_17 := fun hj => dn_up (h.l22_17 (dn_of hi hj (by decide))), l22_18 := fun hj => dn_up (h.l22_18 (dn_of hi hj (by decide))), l22_19 := fun hj => dn_up (h.l22_19 (dn_of hi hj (by decide))), l22_20 := fun hj => dn_up (h.l22_20 (dn_of hi hj (by decide))), l22_21 := fun hj => dn_up (h.l22_21 (dn_of hi hj (by decide))), p0 := rp hi h.p0, p1 := fun _ => set_same (by have := h.siz; omega), p2 := rp hi h.p2, p3 := rp hi h.p3, p4 := rp hi h.p4, p6 := rp hi h.p6, p7 := rp hi h.p7, p8 := rp hi h.p8, p9 := rp hi h.p9, p10 := rp hi h.p10, p11 := rp hi h.p11, p12 := rp hi h.p12, p13 := rp hi h.p13, p14 := rp hi h.p14, p15 := rp hi h.p15, p16 := rp hi h.p16, p17 := rp hi h.p17, p18 := rp hi h.p18, p19 := rp hi h.p19, p20 := rp hi h.p20, p21 := rp hi h.p21 }⟩
                · have hi : 2 < d.size := by omega
                  have e1 := h.p1 (hpre _ rfl ⟨1, .data⟩ (by simp) rfl)
                  have hnd' := not_dn hi hnd
                  refine wpOp_plain rfl rfl ?_
                  go_simp
                  simp (disch := omega) only [IntWalk.i64_in]
                  try simp only [Int.add_sub_cancel]
                  exact ⟨_, rfl, { bel := h.bel, siz := (by simpa using h.siz), kp := rk h.kp, k5 := rs h.k5, k9 := rs h.k9, oth := fun hk => h.oth (fun q => hk (dn_up q)), sl := fun hj hk => by obtain ⟨g, e1, e2, e3⟩ := h.sl (dn_of hi hj (by decide)) (fun q => hk (dn_up q)); exact ⟨g, (set_other (by decide)).trans e1, e2, e3⟩, res := fun hj => absurd (h.l22_2 (dn_of hi hj (by decide))) hnd', l1_0 := fun hj => dn_up (h.l1_0 (dn_of hi hj (by decide))), l2_1 := fun _ => dn_up (hpre _ rfl ⟨1, .data⟩ (by simp) rfl), l3_2 := fun hj => dn_up (h.l3_2 (dn_of hi hj (by decide))), l4_3 := fun hj => dn_up (h.l4_3 (dn_of hi hj (by decide))), l5_4 := fun hj => dn_up (h.l5_4 (dn_of hi hj (by decide))), l6_5 := fun hj => dn_up (h.l6_5 (dn_of hi hj (by decide))), l7_6 := fun hj => dn_up (h.l7_6 (dn_of hi hj (by decide))), l8_7 := fun hj => dn_up (h.l8_7 (dn_of hi hj (by decide))), l10_9 := fun hj => dn_up (h.l10_9 (dn_of hi hj (by decide))), l11_8 := fun hj => dn_up (h.l11_8 (dn_of hi hj (by decide))), l11_10 := fun hj => dn_up (h.l11_10 (dn_of hi hj (by decide))), l12_11 := fun hj => dn_up (h.l12_11 (dn_of hi hj (by decide))), l14_13 := fun hj => dn_up (h.l14_13 (dn_of hi hj (by decide))), l15_14 := fun hj => dn_up (h.l15_14 (dn_of hi hj (by decide))), l16_12 := fun hj => dn_up (h.l16_12 (dn_of hi hj (by decide))), l16_15 := fun hj => dn_up (h.l16_15 (dn_of hi hj (by decide))), l17_16 := fun hj => dn_up (h.l17_16 (dn_of hi hj (by decide))), l19_18 := fun hj => dn_up (h.l19_18 (dn_of hi hj (by decide))), l20_19 := fun hj => dn_up (h.l20_19 (dn_of hi hj (by decide))), l21_17 := fun hj => dn_up (h.l21_17 (dn_of hi hj (by decide))), l21_20 := fun hj => dn_up (h.l21_20 (dn_of hi hj (by decide))), l22_0 := fun hj => dn_up (h.l22_0 (dn_of hi hj (by decide))), l22_1 := fun hj => dn_up (h.l22_1 (dn_of hi hj (by decide))), l22_2 := fun hj => dn_up (h.l22_2 (dn_of hi hj (by decide))), l22_3 := fun hj => dn_up (h.l22_3 (dn_of hi hj (by decide))), l22_4 := fun hj => dn_up (h.l22_4 (dn_of hi hj (by decide))), l22_5 := fun hj => dn_up (h.l22_5 (dn_of hi hj (by decide))), l22_6 := fun hj => dn_up (h.l22_6 (dn_of hi hj (by decide))), l22_7 := fun hj => dn_up (h.l22_7 (dn_of hi hj (by decide))), l22_8 := fun hj => dn_up (h.l22_8 (dn_of hi hj (by decide))), l22_9 := fun hj => dn_up (h.l22_9 (dn_of hi hj (by decide))), l22_10 := fun hj => dn_up (h.l22_10 (dn_of hi hj (by decide))), l22_11 := fun hj => dn_up (h.l22_11 (dn_of hi hj (by decide))), l22_12 := fun hj => dn_up (h.l22_12 (dn_of hi hj (by decide))), l22_13 := fun hj => dn_up (h.l22_13 (dn_of hi hj (by decide))), l22_14 := fun hj => dn_up (h.l22_14 (dn_of hi hj (by decide))), l22_15 := fun hj => dn_up (h.l22_15 (dn_of hi hj (by decide))), l22_16 := fun hj => dn_up (h.l22_16 (dn_of hi hj (by decide))), l22_17 := fun hj => dn_up (h.l22_17 (dn_of hi hj (by decide))), l22_18 := fun hj => dn_up (h.l22_18 (dn_of hi hj (by decide))), l22_19 := fun hj => dn_up (h.l22_19 (dn_of hi hj (by decide))), l22_20 := fun hj => dn_up (h.l22_20 (dn_of hi hj (by decide))), l22_21 := fun hj => dn_up (h.l22_21 (dn_of hi hj (by decide))), p0 := rp hi h.p0, p1 := rp hi h.p1, p2 := fun _ => set_same (by have := h.siz; omega), p3 := rp hi h.p3, p4 := rp hi h.p4, p6 := rp hi h.p6, p7 := rp hi h.p7, p8 := rp hi h.p8, p9 := rp hi h.p9, p10 := rp hi h.p10, p11 := rp hi h.p11, p12 := rp hi h.p12, p13 := rp hi h.p13, p14 := rp hi h.p14, p15 := rp hi h.p15, p16 := rp hi h.p16, p17 := rp hi h.p17, p18 := rp hi h.p18, p19 := rp hi h.p19, p20 := rp hi h.p20, p21 := rp hi h.p21 }⟩
                · have hi : 3 < d.size := by omega
                  have e2 := h.p2 (hpre _ rfl ⟨2, .data⟩ (by simp) rfl)
                  have hnd' := not_dn hi hnd
                  refine wpOp_plain rfl rfl ?_
                  go_simp
                  exact ⟨_, rfl, { bel := h.bel, siz := (by simpa using h.siz), kp := rk h.kp, k5 := rs h.k5, k9 := rs h.k9, oth := fun hk => h.oth (fun q => hk (dn_up q)), sl := fun hj hk => by obtain ⟨g, e1, e2, e3⟩ := h.sl (dn_of hi hj (by decide)) (fun q => hk (dn_up q)); exact ⟨g, (set_other (by decide)).trans e1, e2, e3⟩, res := fun hj => absurd (h.l22_3 (dn_of hi hj (by decide))) hnd', l1_0 := fun hj => dn_up (h.l1_0 (dn_of hi hj (by decide))), l2_1 := fun hj => dn_up (h.l2_1 (dn_of hi hj (by decide))), l3_2 := fun _ => dn_up (hpre _ rfl ⟨2, .data⟩ (by simp) rfl), l4_3 := fun hj => dn_up (h.l4_3 (dn_of hi hj (by decide))), l5_4 := fun hj => dn_up (h.l5_4 (dn_of hi hj (by decide))), l6_5 := fun hj => dn_up (h.l6_5 (dn_of hi hj (by decide))), l7_6 := fun hj => dn_up (h.l7_6 (dn_of hi hj (by decide))), l8_7 := fun hj => dn_up (h.l8_7 (dn_of hi hj (by decide))), l10_9 := fun hj => dn_up (h.l10_9 (dn_of hi hj (by decide))), l11_8 := fun hj => dn_up (h.l11_8 (dn_of hi hj (by decide))), l11_10 := fun hj => dn_up (h.l11_10 (dn_of hi hj (by decide))), l12_11 := fun hj => dn_up (h.l12_11 (dn_of hi hj (by decide))), l14_13 := fun hj => dn_up (h.l14_13 (dn_of hi hj (by decide))), l15_14 := fun hj => dn_up (h.l15_14 (dn_of hi hj (by decide))), l16_12 := fun hj => dn_up (h.l16_12 (dn_of hi hj (by decide))), l16_15 := fun hj => dn_up (h.l16_15 (dn_of hi hj (by decide))), l17_16 := fun hj => dn_up (h.l17_16 (dn_of hi hj (by decide))), l19_18 := fun hj => dn_up (h.l19_18 (dn_of hi hj (by decide))), l20_19 := fun hj => dn_up (h.l20_19 (dn_of hi hj (by decide))), l21_17 := fun hj => dn_up (h.l21_17 (dn_of hi hj (by decide))), l21_20 := fun hj => dn_up (h.l21_20 (dn_of hi hj (by decide))), l22_0 := fun hj => dn_up (h.l22_0 (dn_of hi hj (by decide))), l22_1 := fun hj => dn_up (h.l22_1 (dn_of hi hj (by decide))), l22_2 := fun hj => dn_up (h.l22_2 (dn_of hi hj (by decide))), l22_3 := fun hj => dn_up (h.l22_3 (dn_of hi hj (by decide))), l22_4 := fun hj => dn_up (h.l22_4 (dn_of hi hj (by decide))), l22_5 := fun hj => dn_up (h.l22_5 (dn_of hi hj (by decide))), l22_6 := fun hj => dn_up (h.l22_6 (dn_of hi hj (by decide))), l22_7 := fun hj => dn_up (h.l22_7 (dn_of hi hj (by decide))), l22_8 := fun hj => dn_up (h.l22_8 (dn_of hi hj (by decide))), l22_9 := fun hj => dn_up (h.l22_9 (dn_of hi hj (by decide))), l22_10 := fun hj => dn_up (h.l22_10 (dn_of hi hj (by decide))), l22_11 := fun hj => dn_up (h.l22_11 (dn_of hi hj (by decide))), l22_12 := fun hj => dn_up (h.l22_12 (dn_of hi hj (by decide))), l22_13 := fun hj => dn_up (h.l22_13 (dn_of hi hj (by decide))), l22_14 := fun hj => dn_up (h.l22_14 (dn_of hi hj (by decide))), l22_15 := fun hj => dn_up (h.l22_15 (dn_of hi hj (by decide))), l22_16 := fun hj => dn_up (h.l22_16 (dn_of hi hj (by decide))), l22_17 := fun hj => dn_up (h.l22_17 (dn_of hi hj (by decide))), l22_18 := fun hj => dn_up (h.l22_18 (dn_of hi hj (by decide))), l22_19 := fun hj => dn_up (h.l22_19 (dn_of hi hj (by decide))), l22_20 := fun hj => dn_up (h.l22_20 (dn_of hi hj (by decide))), l22_21 := fun hj => dn_up (h.l22_21 (dn_of hi hj (by decide))), p0 := rp hi h.p0, p1 := rp hi h.p1, p2 := rp hi h.p2, p3 := fun _ => set_same (by have := h.siz; omega), p4 := rp hi h.p4, p6 := rp hi h.p6, p7 := rp hi h.p7, p8 := rp hi h.p8, p9 := rp hi h.p9, p10 := rp hi h.p10, p11 := rp hi h.p11, p12 := rp hi h.p12, p13 := rp hi h.p13, p14 := rp hi h.p14, p15 := rp hi h.p15, p16 := rp hi h.p16, p17 := rp hi h.p17, p18 := rp hi h.p18, p19 := rp hi h.p19, p20 := rp hi h.p20, p21 := rp hi h.p21 }⟩
                · have hi : 4 < d.size := by omega
                  have e3 := h.p3 (hpre _ rfl ⟨3, .data⟩ (by simp) rfl)
                  have hnd' := not_dn hi hnd
                  have h7 : ¬ dn d 22 := fun q => hnd' (h.l22_4 q)
                  have m9 := HLB.out wc (HW0.out.trans ((h.oth h7).mono HW0.out.size))
                  refine wpOp_plain rfl rfl ?_
                  go_simp
                  exact ⟨_, rfl, { bel := h.bel, siz := (by simpa using h.siz), kp := rk h.kp, k5 := rs h.k5, k9 := rs h.k9, oth := fun hk => h.oth (fun q => hk (dn_up q)), sl := fun hj hk => by obtain ⟨g, e1, e2, e3⟩ := h.sl (dn_of hi hj (by decide)) (fun q => hk (dn_up q)); exact ⟨g, (set_other (by decide)).trans e1, e2, e3⟩, res := fun hj => absurd (h.l22_4 (dn_of hi hj (by decide))) hnd', l1_0 := fun hj => dn_up (h.l1_0 (dn_of hi hj (by decide))), l2_1 := fun hj => dn_up (h.l2_1 (dn_of hi hj (by decide))), l3_2 := fun hj => dn_up (h.l3_2 (dn_of hi hj (by decide))), l4_3 := fun _ => dn_up (hpre _ rfl ⟨3, .data⟩ (by simp) rfl), l5_4 := fun hj => dn_up (h.l5_4 (dn_of hi hj (by decide))), l6_5 := fun hj => dn_up (h.l6_5 (dn_of hi hj (by decide))), l7_6 := fun hj => dn_up (h.l7_6 (dn_of hi hj (by decide))), l8_7 := fun hj => dn_up (h.l8_7 (dn_of hi hj (by decide))), l10_9 := fun hj => dn_up (h.l10_9 (dn_of hi hj (by decide))), l11_8 := fun hj => dn_up (h.l11_8 (dn_of hi hj (by decide))), l11_10 := fun hj => dn_up (h.l11_10 (dn_of hi hj (by decide))), l12_11 := fun hj => dn_up (h.l12_11 (dn_of hi hj (by decide))), l14_13 := fun hj => dn_up (h.l14_13 (dn_of hi hj (by decide))), l15_14 := fun hj => dn_up (h.l15_14 (dn_of hi hj (by decide))), l16_12 := fun hj => dn_up (h.l16_12 (dn_of hi hj (by decide))), l16_15 := fun hj => dn_up (h.l16_15 (dn_of hi hj (by decide))), l17_16 := fun hj => dn_up (h.l17_16 (dn_of hi hj (by decide))), l19_18 := fun hj => dn_up (h.l19_18 (dn_of hi hj (by decide))), l20_19 := fun hj => dn_up (h.l20_19 (dn_of hi hj (by decide))), l21_17 := fun hj => dn_up (h.l21_17 (dn_of hi hj (by decide))), l21_20 := fun hj => dn_up (h.l21_20 (dn_of hi hj (by decide))), l22_0 := fun hj => dn_up (h.l22_0 (dn_of hi hj (by decide))), l22_1 := fun hj => dn_up (h.l22_1 (dn_of hi hj (by decide))), l22_2 := fun hj => dn_up (h.l22_2 (dn_of hi hj (by decide))), l22_3 := fun hj => dn_up (h.l22_3 (dn_of hi hj (by decide))), l22_4 := fun hj => dn_up (h.l22_4 (dn_of hi hj (by decide))), l22_5 := fun hj => dn_up (h.l22_5 (dn_of hi hj (by decide))), l22_6 := fun hj => dn_up (h.l22_6 (dn_of hi hj (by decide))), l22_7 := fun hj => dn_up (h.l22_7 (dn_of hi hj (by decide))), l22_8 := fun hj => dn_up (h.l22_8 (dn_of hi hj (by decide))), l22_9 := fun hj => dn_up (h.l22_9 (dn_of hi hj (by decide))), l22_10 := fun hj => dn_up (h.l22_10 (dn_of hi hj (by decide))), l22_11 := fun hj => dn_up (h.l22_11 (dn_of hi hj (by decide))), l22_12 := fun hj => dn_up (h.l22_12 (dn_of hi hj (by decide))), l22_13 := fun hj => dn_up (h.l22_13 (dn_of hi hj (by decide))), l22_14 := fun hj => dn_up (h.l22_14 (dn_of hi hj (by decide))), l22_15 := fun hj => dn_up (h.l22_15 (dn_of hi hj (by decide))), l22_16 := fun hj => dn_up (h.l22_16 (dn_of hi hj (by decide))), l22_17 := fun hj => dn_up (h.l22_17 (dn_of hi hj (by decide))), l22_18 := fun hj => dn_up (h.l22_18 (dn_of hi hj (by decide))), l22_19 := fun hj => dn_up (h.l22_19 (dn_of hi hj (by decide))), l22_20 := fun hj => dn_up (h.l22_20 (dn_of hi hj (by decide))), l22_21 := fun hj => dn_up (h.l22_21 (dn_of hi hj (by decide))), p0 := rp hi h.p0, p1 := rp hi h.p1, p2 := rp hi h.p2, p3 := rp hi h.p3, p4 := fun _ => set_same (by have := h.siz; omega), p6 := rp hi h.p6, p7 := rp hi h.p7, p8 := rp hi h.p8, p9 := rp hi h.p9, p10 := rp hi h.p10, p11 := rp hi h.p11, p12 := rp hi h.p12, p13 := rp hi h.p13, p14 := rp hi h.p14, p15 := rp hi h.p15, p16 := rp hi h.p16, p17 := rp hi h.p17, p18 := rp hi h.p18, p19 := rp hi h.p19, p20 := rp hi h.p20, p21 := rp hi h.p21 }⟩
                · have hi : 5 < d.size := by omega
                  have hnd' := not_dn hi hnd
                  have h7 : ¬ dn d 22 := fun q => hnd' (h.l22_5 q)
                  have d4 : dn d 4 := hpre _ rfl ⟨4, .data⟩ (by simp) rfl
                  have e4 := h.p4 d4
                  have hb : Below wc.heap.size wc (wc.alloc (.cells #[.int .u8 (kb.toNat : Int)] 5)) := (Below.refl _ _).alloc (Nat.le_refl _) _
                  refine wpOp_plain rfl rfl ?_
                  go_simp
                  exact ⟨_, rfl, { bel := h.bel.trans (hb.mono (by have := (h.oth h7).size; omega)), siz := (by simpa using h.siz), kp := rk h.kp, k5 := rs h.k5, k9 := rs h.k9, oth := fun hk => (h.oth (fun q => hk (dn_up q))).trans (hb.mono (h.oth (fun q => hk (dn_up q))).size), sl := fun _ _ => ⟨wc.heap.size, set_same (by have := h.siz; omega), cell_new _ _ _, by simp⟩, res := fun hj => absurd (h.l22_5 (dn_of hi hj (by decide))) hnd', l1_0 := fun hj => dn_up (h.l1_0 (dn_of hi hj (by decide))), l2_1 := fun hj => dn_up (h.l2_1 (dn_of hi hj (by decide))), l3_2 := fun hj => dn_up (h.l3_2 (dn_of hi hj (by decide))), l4_3 := fun hj => dn_up (h.l4_3 (dn_of hi hj (by decide))), l5_4 := fun _ => dn_up (hpre _ rfl ⟨4, .data⟩ (by simp) rfl), l6_5 := fun hj => dn_up (h.l6_5 (dn_of hi hj (by decide))), l7_6 := fun hj => dn_up (h.l7_6 (dn_of hi hj (by decide))), l8_7 := fun hj => dn_up (h.l8_7 (dn_of hi hj (by decide))), l10_9 := fun hj => dn_up (h.l10_9 (dn_of hi hj (by decide))), l11_8 := fun hj => dn_up (h.l11_8 (dn_of hi hj (by decide))), l11_10 := fun hj => dn_up (h.l11_10 (dn_of hi hj (by decide))), l12_11 := fun hj => dn_up (h.l12_11 (dn_of hi hj (by decide))), l14_13 := fun hj => dn_up (h.l14_13 (dn_of hi hj (by decide))), l15_14 := fun hj => dn_up (h.l15_14 (dn_of hi hj (by decide))), l16_12 := fun hj => dn_up (h.l16_12 (dn_of hi hj (by decide))), l16_15 := fun hj => dn_up (h.l16_15 (dn_of hi hj (by decide))), l17_16 := fun hj => dn_up (h.l17_16 (dn_of hi hj (by decide))), l19_18 := fun hj => dn_up (h.l19_18 (dn_of hi hj (by decide))), l20_19 := fun hj => dn_up (h.l20_19 (dn_of hi hj (by decide))), l21_17 := fun hj => dn_up (h.l21_17 (dn_of hi hj (by decide))), l21_20 := fun hj => dn_up (h.l21_20 (dn_of hi hj (by decide))), l22_0 := fun hj => dn_up (h.l22_0 (dn_of hi hj (by decide))), l22_1 := fun hj => dn_up (h.l22_1 (dn_of hi hj (by decide))), l22_2 := fun hj => dn_up (h.l22_2 (dn_of hi hj (by decide))), l22_3 := fun hj => dn_up (h.l22_3 (dn_of hi hj (by decide))), l22_4 := fun hj => dn_up (h.l22_4 (dn_of hi hj (by decide))), l22_5 := fun hj => dn_up (h.l22_5 (dn_of hi hj (by decide))), l22_6 := fun hj => dn_up (h.l22_6 (dn_of hi hj (by decide))), l22_7 := fun hj => dn_up (h.l22_7 (dn_of hi hj (by decide))), l22_8 := fun hj => dn_up (h.l22_8 (dn_of hi hj (by decide))), l22_9 := fun hj => dn_up (h.l22_9 (dn_of hi hj (by decide))), l22_10 := fun hj => dn_up (h.l22_10 (dn_of hi hj (by decide))), l22_11 := fun hj => dn_up (h.l22_11 (dn_of hi hj (by decide))), l22_12 := fun hj => dn_up (h.l22_12 (dn_of hi hj (by decide))), l22_13 := fun hj => dn_up (h.l22_13 (dn_of hi hj (by decide))), l22_14 := fun hj => dn_up (h.l22_14 (dn_of hi hj (by decide))), l22_15 := fun hj => dn_up (h.l22_15 (dn_of hi hj (by decide))), l22_16 := fun hj => dn_up (h.l22_16 (dn_of hi hj (by decide))), l22_17 := fun hj => dn_up (h.l22_17 (dn_of hi hj (by decide))), l22_18 := fun hj => dn_up (h.l22_18 (dn_of hi hj (by decide))), l22_19 := fun hj => dn_up (h.l22_19 (dn_of hi hj (by decide))), l22_20 := fun hj => dn_up (h.l22_20 (dn_of hi hj (by decide))), l22_21 := fun hj => dn_up (h.l22_21 (dn_of hi hj (by decide))), p0 := rp hi h.p0, p1 := rp hi h.p1, p2 := rp hi h.p2, p3 := rp hi h.p3, p4 := rp hi h.p4, p6 := rp hi h.p6, p7 := rp hi h.p7, p8 := rp hi h.p8, p9 := rp hi h.p9, p10 := rp hi h.p10, p11 := rp hi h.p11, p12 := rp hi h.p12, p13 := rp hi h.p13, p14 := rp hi h.p14, p15 := rp hi h.p15, p16 := rp hi h.p16, p17 := rp hi h.p17, p18 := rp hi h.p18, p19 := rp hi h.p19, p20 := rp hi h.p20, p21 := rp hi h.p21 }⟩
                · have hi : 6 < d.size := by omega
                  have hnd' := not_dn hi hnd
                  have h7 : ¬ dn d 22 := fun q => hnd' (h.l22_6 q)
                  have d5 : dn d 5 := hpre _ rfl ⟨5, .data⟩ (by simp) rfl
                  obtain ⟨g, e5, c5, s5⟩ := h.sl d5 h7
                  refine wpOp_plain rfl rfl ?_
                  go_simp
                  rw [run_convert_one rfl rfl rfl c5]
                  go_simp
                  exact ⟨_, rfl, { bel := h.bel, siz := (by simpa using h.siz), kp := rk h.kp, k5 := rs h.k5, k9 := rs h.k9, oth := fun hk => h.oth (fun q => hk (dn_up q)), sl := fun hj hk => by obtain ⟨g, e1, e2, e3⟩ := h.sl (dn_of hi hj (by decide)) (fun q => hk (dn_up q)); exact ⟨g, (set_other (by decide)).trans e1, e2, e3⟩, res := fun hj => absurd (h.l22_6 (dn_of hi hj (by decide))) hnd', l1_0 := fun hj => dn_up (h.l1_0 (dn_of hi hj (by decide))), l2_1 := fun hj => dn_up (h.l2_1 (dn_of hi hj (by decide))), l3_2 := fun hj => dn_up (h.l3_2 (dn_of hi hj (by decide))), l4_3 := fun hj => dn_up (h.l4_3 (dn_of hi hj (by decide))), l5_4 := fun hj => dn_up (h.l5_4 (dn_of hi hj (by decide))), l6_5 := fun _ => dn_up (hpre _ rfl ⟨5, .data⟩ (by simp) rfl), l7_6 := fun hj => dn_up (h.l7_6 (dn_of hi hj (by decide))), l8_7 := fun hj => dn_up (h.l8_7 (dn_of hi hj (by decide))), l10_9 := fun hj => dn_up (h.l10_9 (dn_of hi hj (by decide))), l11_8 := fun hj => dn_up (h.l11_8 (dn_of hi hj (by decide))), l11_10 := fun hj => dn_up (h.l11_10 (dn_of hi hj (by decide))), l12_11 := fun hj => dn_up (h.l12_11 (dn_of hi hj (by decide))), l14_13 := fun hj => dn_up (h.l14_13 (dn_of hi hj (by decide))), l15_14 := fun hj => dn_up (h.l15_14 (dn_of hi hj (by decide))), l16_12 := fun hj => dn_up (h.l16_12 (dn_of hi hj (by decide))), l16_15 := fun hj => dn_up (h.l16_15 (dn_of hi hj (by decide))), l17_16 := fun hj => dn_up (h.l17_16 (dn_of hi hj (by decide))), l19_18 := fun hj => dn_up (h.l19_18 (dn_of hi hj (by decide))), l20_19 := fun hj => dn_up (h.l20_19 (dn_of hi hj (by decide))), l21_17 := fun hj => dn_up (h.l21_17 (dn_of hi hj (by decide))), l21_20 := fun hj => dn_up (h.l21_20 (dn_of hi hj (by decide))), l22_0 := fun hj => dn_up (h.l22_0 (dn_of hi hj (by decide))), l22_1 := fun hj => dn_up (h.l22_1 (dn_of hi hj (by decide))), l22_2 := fun hj => dn_up (h.l22_2 (dn_of hi hj (by decide))), l22_3 := fun hj => dn_up (h.l22_3 (dn_of hi hj (by decide))), l22_4 := fun hj => dn_up (h.l22_4 (dn_of hi hj (by decide))), l22_5 := fun hj => dn_up (h.l22_5 (dn_of hi hj (by decide))), l22_6 := fun hj => dn_up (h.l22_6 (dn_of hi hj (by decide))), l22_7 := fun hj => dn_up (h.l22_7 (dn_of hi hj (by decide))), l22_8 := fun hj => dn_up (h.l22_8 (dn_of hi hj (by decide))), l22_9 := fun hj => dn_up (h.l22_9 (dn_of hi hj (by decide))), l22_10 := fun hj => dn_up (h.l22_10 (dn_of hi hj (by decide))), l22_11 := fun hj => dn_up (h.l22_11 (dn_of hi hj (by decide))), l22_12 := fun hj => dn_up (h.l22_12 (dn_of hi hj (by decide))), l22_13 := fun hj => dn_up (h.l22_13 (dn_of hi hj (by decide))), l22_14 := fun hj => dn_up (h.l22_14 (dn_of hi hj (by decide))), l22_15 := fun hj => dn_up (h.l22_15 (dn_of hi hj (by decide))), l22_16 := fun hj => dn_up (h.l22_16 (dn_of hi hj (by decide))), l22_17 := fun hj => dn_up (h.l22_17 (dn_of hi hj (by decide))), l22_18 := fun hj => dn_up (h.l22_18 (dn_of hi hj (by decide))), l22_19 := fun hj => dn_up (h.l22_19 (dn_of hi hj (by decide))), l22_20 := fun hj => dn_up (h.l22_20 (dn_of hi hj (by decide))), l22_21 := fun hj => dn_up (h.l22_21 (dn_of hi hj (by decide))), p0 := rp hi h.p0, p1 := rp hi h.p1, p2 := rp hi h.p2, p3 := rp hi h.p3, p4 := rp hi h.p4, p6 := fun _ => set_same (by have := h.siz; omega), p7 := rp hi h.p7, p8 := rp hi h.p8, p9 := rp hi h.p9, p10 := rp hi h.p10, p11 := rp hi h.p11, p12 := rp hi h.p12, p13 := rp hi h.p13, p14 := rp hi h.p14, p15 := rp hi h.p15, p16 := rp hi h.p16, p17 := rp hi h.p17, p18 := rp hi h.p18, p19 := rp hi h.p19, p20 := rp hi h.p20, p21 := rp hi h.p21 }⟩
                · have hi : 7 < d.size := by omega
                  have e6 := h.p6 (hpre _ rfl ⟨6, .data⟩ (by simp) rfl)
                  have hnd' := not_dn hi hnd
                  refine wpOp_plain rfl rfl ?_
                  go_simp
                  exact ⟨_, rfl, { bel := h.bel, siz := (by simpa using h.siz), kp := rk h.kp, k5 := rs h.k5, k9 := rs h.k9, oth := fun hk => h.oth (fun q => hk (dn_up q)), sl := fun hj hk => by obtain ⟨g, e1, e2, e3⟩ := h.sl (dn_of hi hj (by decide)) (fun q => hk (dn_up q)); exact ⟨g, (set_other (by decide)).trans e1, e2, e3⟩, res := fun hj => absurd (h.l22_7 (dn_of hi hj (by decide))) hnd', l1_0 := fun hj => dn_up (h.l1_0 (dn_of hi hj (by decide))), l2_1 := fun hj => dn_up (h.l2_1 (dn_of hi hj (by decide))), l3_2 := fun hj => dn_up (h.l3_2 (dn_of hi hj (by decide))), l4_3 := fun hj => dn_up (h.l4_3 (dn_of hi hj (by decide))), l5_4 := fun hj => dn_up (h.l5_4 (dn_of hi hj (by decide))), l6_5 := fun hj => dn_up (h.l6_5 (dn_of hi hj (by decide))), l7_6 := fun _ => dn_up (hpre _ rfl ⟨6, .data⟩ (by simp) rfl), l8_7 := fun hj => dn_up (h.l8_7 (dn_of hi hj (by decide))), l10_9 := fun hj => dn_up (h.l10_9 (dn_of hi hj (by decide))), l11_8 := fun hj => dn_up (h.l11_8 (dn_of hi hj (by decide))), l11_10 := fun hj => dn_up (h.l11_10 (dn_of hi hj (by decide))), l12_11 := fun hj => dn_up (h.l12_11 (dn_of hi hj (by decide))), l14_13 := fun hj => dn_up (h.l14_13 (dn_of hi hj (by decide))), l15_14 := fun hj => dn_up (h.l15_14 (dn_of hi hj (by decide))), l16_12 := fun hj => dn_up (h.l16_12 (dn_of hi hj (by decide))), l16_15 := fun hj => dn_up (h.l16_15 (dn_of hi hj (by decide))), l17_16 := fun hj => dn_up (h.l17_16 (dn_of hi hj (by decide))), l19_18 := fun hj => dn_up (h.l19_18 (dn_of hi hj (by decide))), l20_19 := fun hj => dn_up (h.l20_19 (dn_of hi hj (by decide))), l21_17 := fun hj => dn_up (h.l21_17 (dn_of hi hj (by decide))), l21_20 := fun hj => dn_up (h.l21_20 (dn_of hi hj (by decide))), l22_0 := fun hj => dn_up (h.l22_0 (dn_of hi hj (by decide))), l22_1 := fun hj => dn_up (h.l22_1 (dn_of hi hj (by decide))), l22_2 := fun hj => dn_up (h.l22_2 (dn_of hi hj (by decide))), l22_3 := fun hj => dn_up (h.l22_3 (dn_of hi hj (by decide))), l22_4 := fun hj => dn_up (h.l22_4 (dn_of hi hj (by decide))), l22_5 := fun hj => dn_up (h.l22_5 (dn_of hi hj (by decide))), l22_6 := fun hj => dn_up (h.l22_6 (dn_of hi hj (by decide))), l22_7 := fun hj => dn_up (h.l22_7 (dn_of hi hj (by decide))), l22_8 := fun hj => dn_up (h.l22_8 (dn_of hi hj (by decide))), l22_9 := fun hj => dn_up (h.l22_9 (dn_of hi hj (by decide))), l22_10 := fun hj => dn_up (h.l22_10 (dn_of hi hj (by decide))), l22_11 := fun hj => dn_up (h.l22_11 (dn_of hi hj (by decide))), l22_12 := fun hj => dn_up (h.l22_12 (dn_of hi hj (by decide))), l22_13 := fun hj => dn_up (h.l22_13 (dn_of hi hj (by decide))), l22_14 := fun hj => dn_up (h.l22_14 (dn_of hi hj (by decide))), l22_15 := fun hj => dn_up (h.l22_15 (dn_of hi hj (by decide))), l22_16 := fun hj => dn_up (h.l22_16 (dn_of hi hj (by decide))), l22_17 := fun hj => dn_up (h.l22_17 (dn_of hi hj (by decide))), l22_18 := fun hj => dn_up (h.l22_18 (dn_of hi hj (by decide))), l22_19 := fun hj => dn_up (h.l22_19 (dn_of hi hj (by decide))), l22_20 := fun hj => dn_up (h.l22_20 (dn_of hi hj (by decide))), l22_21 := fun hj => dn_up (h.l22_21 (dn_of hi hj (by decide))), p0 := rp hi h.p0, p1 := rp hi h.p1, p2 := rp hi h.p2, p3 := rp hi h.p3, p4 := rp hi h.p4, p6 := rp hi h.p6, p7 := fun _ => set_same (by have := h.siz; omega), p8 := rp hi h.p8, p9 := rp hi h.p9, p10 := rp hi h.p10, p11 := rp hi h.p11, p12 := rp hi h.p12, p13 := rp hi h.p13, p14 := rp hi h.p14, p15 := rp hi h.p15, p16 := rp hi h.p16, p17 := rp hi h.p17, p18 := rp hi h.p18, p19 := rp hi h.p19, p20 := rp hi h.p20, p21 := rp hi h.p21 }⟩
                · have hi : 8 < d.size := by omega
                  have e7 := h.p7 (hpre _ rfl ⟨7, .data⟩ (by simp) rfl)
                  have hnd' := not_dn hi hnd
                  refine wpOp_plain rfl rfl ?_
                  go_simp
                  exact ⟨_, rfl, { bel := h.bel, siz := (by simpa using h.siz), kp := rk h.kp, k5 := rs h.k5, k9 := rs h.k9, oth := fun hk => h.oth (fun q => hk (dn_up q)), sl := fun hj hk => by obtain ⟨g, e1, e2, e3⟩ := h.sl (dn_of hi hj (by decide)) (fun q => hk (dn_up q)); exact ⟨g, (set_other (by decide)).trans e1, e2, e3⟩, res := fun hj => absurd (h.l22_8 (dn_of hi hj (by decide))) hnd', l1_0 := fun hj => dn_up (h.l1_0 (dn_of hi hj (by decide))), l2_1 := fun hj => dn_up (h.l2_1 (dn_of hi hj (by decide))), l3_2 := fun hj => dn_up (h.l3_2 (dn_of hi hj (by decide))), l4_3 := fun hj => dn_up (h.l4_3 (dn_of hi hj (by decide))), l5_4 := fun hj => dn_up (h.l5_4 (dn_of hi hj (by decide))), l6_5 := fun hj => dn_up (h.l6_5 (dn_of hi hj (by decide))), l7_6 := fun hj => dn_up (h.l7_6 (dn_of hi hj (by decide))), l8_7 := fun _ => dn_up (hpre _ rfl ⟨7, .data⟩ (by simp) rfl), l10_9 := fun hj => dn_up (h.l10_9 (dn_of hi hj (by decide))), l11_8 := fun hj => dn_up (h.l11_8 (dn_of hi hj (by decide))), l11_10 := fun hj => dn_up (h.l11_10 (dn_of hi hj (by decide))), l12_11 := fun hj => dn_up (h.l12_11 (dn_of hi hj (by decide))), l14_13 := fun hj => dn_up (h.l14_13 (dn_of hi hj (by decide))), l15_14 := fun hj => dn_up (h.l15_14 (dn_of hi hj (by decide))), l16_12 := fun hj => dn_up (h.l16_12 (dn_of hi hj (by decide))), l16_15 := fun hj => dn_up (h.l16_15 (dn_of hi hj (by decide))), l17_16 := fun hj => dn_up (h.l17_16 (dn_of hi hj (by decide))), l19_18 := fun hj => dn_up (h.l19_18 (dn_of hi hj (by decide))), l20_19 := fun hj => dn_up (h.l20_19 (dn_of hi hj (by decide))), l21_17 := fun hj => dn_up (h.l21_17 (dn_of hi hj (by decide))), l21_20 := fun hj => dn_up (h.l21_20 (dn_of hi hj (by decide))), l22_0 := fun hj => dn_up (h.l22_0 (dn_of hi hj (by decide))), l22_1 := fun hj => dn_up (h.l22_1 (dn_of hi hj (by decide))), l22_2 := fun hj => dn_up (h.l22_2 (dn_of hi hj (by decide))), l22_3 := fun hj => dn_up (h.l22_3 (dn_of hi hj (by decide))), l22_4 := fun hj => dn_up (h.l22_4 (dn_of hi hj (by decide))), l22_5 := fun hj => dn_up (h.l22_5 (dn_of hi hj (by decide))), l22_6 := fun hj => dn_up (h.l22_6 (dn_of hi hj (by decide))), l22_7 := fun hj => dn_up (h.l22_7 (dn_of hi hj (by decide))), l22_8 := fun hj => dn_up (h.l22_8 (dn_of hi hj (by decide))), l22_9 := fun hj => dn_up (h.l22_9 (dn_of hi hj (by decide))), l22_10 := fun hj => dn_up (h.l22_10 (dn_of hi hj (by decide))), l22_11 := fun hj => dn_up (h.l22_11 (dn_of hi hj (by decide))), l22_12 := fun hj => dn_up (h.l22_12 (dn_of hi hj (by decide))), l22_13 := fun hj => dn_up (h.l22_13 (dn_of hi hj (by decide))), l22_14 := fun hj => dn_up (h.l22_14 (dn_of hi hj (by decide))), l22_15 := fun hj => dn_up (h.l22_15 (dn_of hi hj (by decide))), l22_16 := fun hj => dn_up (h.l22_16 (dn_of hi hj (by decide))), l22_17 := fun hj => dn_up (h.l22_17 (dn_of hi hj (by decide))), l22_18 := fun hj => dn_up (h.l22_18 (dn_of hi hj (by decide))), l22_19 := fun hj => dn_up (h.l22_19 (dn_of hi hj (by decide))), l22_20 := fun hj => dn_up (h.l22_20 (dn_of hi hj (by decide))), l22_21 := fun hj => dn_up (h.l22_21 (dn_of hi hj (by decide))), p0 := rp hi h.p0, p1 := rp hi h.p1, p2 := rp hi h.p2, p3 := rp hi h.p3, p4 := rp hi h.p4, p6 := rp hi h.p6, p7 := rp hi h.p7, p8 := fun _ => set_same (by have := h.siz; omega), p9 := rp hi h.p9, p10 := rp hi h.p10, p11 := rp hi h.p11, p12 := rp hi h.p12, p13 := rp hi h.p13, p14 := rp hi h.p14, p15 := rp hi h.p15, p16 := rp hi h.p16, p17 := rp hi h.p17, p18 := rp hi h.p18, p19 := rp hi h.p19, p20 := rp hi h.p20, p21 := rp hi h.p21 }⟩
                · have hi : 9 < d.size := by omega
                  have q9 := h.k9
                  have hnd' := not_dn hi hnd
                  refine wpOp_plain rfl rfl ?_
                  go_simp
                  exact ⟨_, rfl, { bel := h.bel, siz := (by simpa using h.siz), kp := rk h.kp, k5 := rs h.k5, k9 := rs h.k9, oth := fun hk => h.oth (fun q => hk (dn_up q)), sl := fun hj hk => by obtain ⟨g, e1, e2, e3⟩ := h.sl (dn_of hi hj (by decide)) (fun q => hk (dn_up q)); exact ⟨g, (set_other (by decide)).trans e1, e2, e3⟩, res := fun hj => absurd (h.l22_9 (dn_of hi hj (by decide))) hnd', l1_0 := fun hj => dn_up (h.l1_0 (dn_of hi hj (by decide))), l2_1 := fun hj => dn_up (h.l2_1 (dn_of hi hj (by decide))), l3_2 := fun hj => dn_up (h.l3_2 (dn_of hi hj (by decide))), l4_3 := fun hj => dn_up (h.l4_3 (dn_of hi hj (by decide))), l5_4 := fun hj => dn_up (h.l5_4 (dn_of hi hj (by decide))), l6_5 := fun hj => dn_up (h.l6_5 (dn_of hi hj (by decide))), l7_6 := fun hj => dn_up (h.l7_6 (dn_of hi hj (by decide))), l8_7 := fun hj => dn_up (h.l8_7 (dn_of hi hj (by decide))), l10_9 := fun hj => dn_up (h.l10_9 (dn_of hi hj (by decide))), l11_8 := fun hj => dn_up (h.l11_8 (dn_of hi hj (by decide))), l11_10 := fun hj => dn_up (h.l11_10 (dn_of hi hj (by decide))), l12_11 := fun hj => dn_up (h.l12_11 (dn_of hi hj (by decide))), l14_13 := fun hj => dn_up (h.l14_13 (dn_of hi hj (by decide))), l15_14 := fun hj => dn_up (h.l15_14 (dn_of hi hj (by decide))), l16_12 := fun hj => dn_up (h.l16_12 (dn_of hi hj (by decide))), l16_15 := fun hj => dn_up (h.l16_15 (dn_of hi hj (by decide))), l17_16 := fun hj => dn_up (h.l17_16 (dn_of hi hj (by decide))), l19_18 := fun hj => dn_up (h.l19_18 (dn_of hi hj (by decide))), l20_19 := fun hj => dn_up (h.l20_19 (dn_of hi hj (by decide))), l21_17 := fun hj => dn_up (h.l21_17 (dn_of hi hj (by decide))), l21_20 := fun hj => dn_up (h.l21_20 (dn_of hi hj (by decide))), l22_0 := fun hj => dn_up (h.l22_0 (dn_of hi hj (by decide))), l22_1 := fun hj => dn_up (h.l22_1 (dn_of hi hj (by decide))), l22_2 := fun hj => dn_up (h.l22_2 (dn_of hi hj (by decide))), l22_3 := fun hj => dn_up (h.l22_3 (dn_of hi hj (by decide))), l22_4 := fun hj => dn_up (h.l22_4 (dn_of hi hj (by decide))), l22_5 := fun hj => dn_up (h.l22_5 (dn_of hi hj (by decide))), l22_6 := fun hj => dn_up (h.l22_6 (dn_of hi hj (by decide))), l22_7 := fun hj => dn_up (h.l22_7 (dn_of hi hj (by decide))), l22_8 := fun hj => dn_up (h.l22_8 (dn_of hi hj (by decide))), l22_9 := fun hj => dn_up (h.l22_9 (dn_of hi hj (by decide))), l22_10 := fun hj => dn_up (h.l22_10 (dn_of hi hj (by decide))), l22_11 := fun hj => dn_up (h.l22_11 (dn_of hi hj (by decide))), l22_12 := fun hj => dn_up (h.l22_12 (dn_of hi hj (by decide))), l22_13 := fun hj => dn_up (h.l22_13 (dn_of hi hj (by decide))), l22_14 := fun hj => dn_up (h.l22_14 (dn_of hi hj (by decide))), l22_15 := fun hj => dn_up (h.l22_15 (dn_of hi hj (by decide))), l22_16 := fun hj => dn_up (h.l22_16 (dn_of hi hj (by decide))), l22_17 := fun hj => dn_up (h.l22_17 (dn_of hi hj (by decide))), l22_18 := fun hj => dn_up (h.l22_18 (dn_of hi hj (by decide))), l22_19 := fun hj => dn_up (h.l22_19 (dn_of hi hj (by decide))), l22_20 := fun hj => dn_up (h.l22_20 (dn_of hi hj (by decide))), l22_21 := fun hj => dn_up (h.l22_21 (dn_of hi hj (by decide))), p0 := rp hi h.p0, p1 := rp hi h.p1, p2 := rp hi h.p2, p3 := rp hi h.p3, p4 := rp hi h.p4, p6 := rp hi h.p6, p7 := rp hi h.p7, p8 := rp hi h.p8, p9 := fun _ => set_same (by have := h.siz; omega), p10 := rp hi h.p10, p11 := rp hi h.p11, p12 := rp hi h.p12, p13 := rp hi h.p13, p14 := rp hi h.p14, p15 := rp hi h.p15, p16 := rp hi h.p16, p17 := rp hi h.p17, p18 := rp hi h.p18, p19 := rp hi h.p19, p20 := rp hi h.p20, p21 := rp hi h.p21 }⟩
                · have hi : 10 < d.size := by omega
                  have e9 := h.p9 (hpre _ rfl ⟨9, .data⟩ (by simp) rfl)
                  have hnd' := not_dn hi hnd
                  have h7 : ¬ dn d 22 := fun q => hnd' (h.l22_10 q)
                  obtain ⟨m0, m1, m2, m3⟩ := four_cellsV (((h.oth h7).block eb hE).trans HEN.out)
                  refine wpOp_plain rfl rfl ?_
                  go_simp
                  exact ⟨_, rfl, { bel := h.bel, siz := (by simpa using h.siz), kp := rk h.kp, k5 := rs h.k5, k9 := rs h.k9, oth := fun hk => h.oth (fun q => hk (dn_up q)), sl := fun hj hk => by obtain ⟨g, e1, e2, e3⟩ := h.sl (dn_of hi hj (by decide)) (fun q => hk (dn_up q)); exact ⟨g, (set_other (by decide)).trans e1, e2, e3⟩, res := fun hj => absurd (h.l22_10 (dn_of hi hj (by decide))) hnd', l1_0 := fun hj => dn_up (h.l1_0 (dn_of hi hj (by decide))), l2_1 := fun hj => dn_up (h.l2_1 (dn_of hi hj (by decide))), l3_2 := fun hj => dn_up (h.l3_2 (dn_of hi hj (by decide))), l4_3 := fun hj => dn_up (h.l4_3 (dn_of hi hj (by decide))), l5_4 := fun hj => dn_up (h.l5_4 (dn_of hi hj (by decide))), l6_5 := fun hj => dn_up (h.l6_5 (dn_of hi hj (by decide))), l7_6 := fun hj => dn_up (h.l7_6 (dn_of hi hj (by decide))), l8_7 := fun hj => dn_up (h.l8_7 (dn_of hi hj (by decide))), l10_9 := fun _ => dn_up (hpre _ rfl ⟨9, .data⟩ (by simp) rfl), l11_8 := fun hj => dn_up (h.l11_8 (dn_of hi hj (by decide))), l11_10 := fun hj => dn_up (h.l11_10 (dn_of hi hj (by decide))), l12_11 := fun hj => dn_up (h.l12_11 (dn_of hi hj (by decide))), l14_13 := fun hj => dn_up (h.l14_13 (dn_of hi hj (by decide))), l15_14 := fun hj => dn_up (h.l15_14 (dn_of hi hj (by decide))), l16_12 := fun hj => dn_up (h.l16_12 (dn_of hi hj (by decide))), l16_15 := fun hj => dn_up (h.l16_15 (dn_of hi hj (by decide))), l17_16 := fun hj => dn_up (h.l17_16 (dn_of hi hj (by decide))), l19_18 := fun hj => dn_up (h.l19_18 (dn_of hi hj (by decide))), l20_19 := fun hj => dn_up (h.l20_19 (dn_of hi hj (by decide))), l21_17 := fun hj => dn_up (h.l21_17 (dn_of hi hj (by decide))), l21_20 := fun hj => dn_up (h.l21_20 (dn_of hi hj (by decide))), l22_0 := fun hj => dn_up (h.l22_0 (dn_of hi hj (by decide))), l22_1 := fun hj => dn_up (h.l22_1 (dn_of hi hj (by decide))), l22_2 := fun hj => dn_up (h.l22_2 (dn_of hi hj (by decide))), l22_3 := fun hj => dn_up (h.l22_3 (dn_of hi hj (by decide))), l22_4 := fun hj => dn_up (h.l22_4 (dn_of hi hj (by decide))), l22_5 := fun hj => dn_up (h.l22_5 (dn_of hi hj (by decide))), l22_6 := fun hj => dn_up (h.l22_6 (dn_of hi hj (by decide))), l22_7 := fun hj => dn_up (h.l22_7 (dn_of hi hj (by decide))), l22_8 := fun hj => dn_up (h.l22_8 (dn_of hi hj (by decide))), l22_9 := fun hj => dn_up (h.l22_9 (dn_of hi hj (by decide))), l22_10 := fun hj => dn_up (h.l22_10 (dn_of hi hj (by decide))), l22_11 := fun hj => dn_up (h.l22_11 (dn_of hi hj (by decide))), l22_12 := fun hj => dn_up (h.l22_12 (dn_of hi hj (by decide))), l22_13 := fun hj => dn_up (h.l22_13 (dn_of hi hj (by decide))), l22_14 := fun hj => dn_up (h.l22_14 (dn_of hi hj (by decide))), l22_15 := fun hj => dn_up (h.l22_15 (dn_of hi hj (by decide))), l22_16 := fun hj => dn_up (h.l22_16 (dn_of hi hj (by decide))), l22_17 := fun hj => dn_up (h.l22_17 (dn_of hi hj (by decide))), l22_18 := fun hj => dn_up (h.l22_18 (dn_of hi hj (by decide))), l22_19 := fun hj => dn_up (h.l22_19 (dn_of hi hj (by decide))), l22_20 := fun hj => dn_up (h.l22_20 (dn_of hi hj (by decide))), l22_21 := fun hj => dn_up (h.l22_21 (dn_of hi hj (by decide))), p0 := rp hi h.p0, p1 := rp hi h.p1, p2 := rp hi h.p2, p3 := rp hi h.p3, p4 := rp hi h.p4, p6 := rp hi h.p6, p7 := rp hi h.p7, p8 := rp hi h.p8, p9 := rp hi h.p9, p10 := fun _ => set_same (by have := h.siz; omega), p11 := rp hi h.p11, p12 := rp hi h.p12, p13 := rp hi h.p13, p14 := rp hi h.p14, p15 := rp hi h.p15, p16 := rp hi h.p16, p17 := rp hi h.p17, p18 := rp hi h.p18, p19 := rp hi h.p19, p20 := rp hi h.p20, p21 := rp hi h.p21 }⟩
                · have hi : 11 < d.size := by omega
                  have e8 := h.p8 (hpre _ rfl ⟨8, .data⟩ (by simp) rfl)
                  have e10 := h.p10 (hpre _ rfl ⟨10, .data⟩ (by simp) rfl)
                  have hnd' := not_dn hi hnd
                  have hz : ¬ 9223372036854775807 < 3 + x.text.size := by omega
                  refine wpOp_plain rfl rfl ?_
                  go_simp
                  exact ⟨_, rfl, { bel := h.bel, siz := (by simpa using h.siz), kp := rk h.kp, k5 := rs h.k5, k9 := rs h.k9, oth := fun hk => h.oth (fun q => hk (dn_up q)), sl := fun hj hk => by obtain ⟨g, e1, e2, e3⟩ := h.sl (dn_of hi hj (by decide)) (fun q => hk (dn_up q)); exact ⟨g, (set_other (by decide)).trans e1, e2, e3⟩, res := fun hj => absurd (h.l22_11 (dn_of hi hj (by decide))) hnd', l1_0 := fun hj => dn_up (h.l1_0 (dn_of hi hj (by decide))), l2_1 := fun hj => dn_up (h.l2_1 (dn_of hi hj (by decide))), l3_2 := fun hj => dn_up (h.l3_2 (dn_of hi hj (by decide))), l4_3 := fun hj => dn_up (h.l4_3 (dn_of hi hj (by decide))), l5_4 := fun hj => dn_up (h.l5_4 (dn_of hi hj (by decide))), l6_5 := fun hj => dn_up (h.l6_5 (dn_of hi hj (by decide))), l7_6 := fun hj => dn_up (h.l7_6 (dn_of hi hj (by decide))), l8_7 := fun hj => dn_up (h.l8_7 (dn_of hi hj (by decide))), l10_9 := fun hj => dn_up (h.l10_9 (dn_of hi hj (by decide))), l11_8 := fun _ => dn_up (hpre _ rfl ⟨8, .data⟩ (by simp) rfl), l11_10 := fun _ => dn_up (hpre _ rfl ⟨10, .data⟩ (by simp) rfl), l12_11 := fun hj => dn_up (h.l12_11 (dn_of hi hj (by decide))), l14_13 := fun hj => dn_up (h.l14_13 (dn_of hi hj (by decide))), l15_14 := fun hj => dn_up (h.l15_14 (dn_of hi hj (by decide))), l16_12 := fun hj => dn_up (h.l16_12 (dn_of hi hj (by decide))), l16_15 := fun hj => dn_up (h.l16_15 (dn_of hi hj (by decide))), l17_16 := fun hj => dn_up (h.l17_16 (dn_of hi hj (by decide))), l19_18 := fun hj => dn_up (h.l19_18 (dn_of hi hj (by decide))), l20_19 := fun hj => dn_up (h.l20_19 (dn_of hi hj (by decide))), l21_17 := fun hj => dn_up (h.l21_17 (dn_of hi hj (by decide))), l21_20 := fun hj => dn_up (h.l21_20 (dn_of hi hj (by decide))), l22_0 := fun hj => dn_up (h.l22_0 (dn_of hi hj (by decide))), l22_1 := fun hj => dn_up (h.l22_1 (dn_of hi hj (by decide))), l22_2 := fun hj => dn_up (h.l22_2 (dn_of hi hj (by decide))), l22_3 := fun hj => dn_up (h.l22_3 (dn_of hi hj (by decide))), l22_4 := fun hj => dn_up (h.l22_4 (dn_of hi hj (by decide))), l22_5 := fun hj => dn_up (h.l22_5 (dn_of hi hj (by decide))), l22_6 := fun hj => dn_up (h.l22_6 (dn_of hi hj (by decide))), l22_7 := fun hj => dn_up (h.l22_7 (dn_of hi hj (by decide))), l22_8 := fun hj => dn_up (h.l22_8 (dn_of hi hj (by decide))), l22_9 := fun hj => dn_up (h.l22_9 (dn_of hi hj (by decide))), l22_10 := fun hj => dn_up (h.l22_10 (dn_of hi hj (by decide))), l22_11 := fun hj => dn_up (h.l22_11 (dn_of hi hj (by decide))), l22_12 := fun hj => dn_up (h.l22_12 (dn_of hi hj (by decide))), l22_13 := fun hj => dn_up (h.l22_13 (dn_of hi hj (by decide))), l22_14 := fun hj => dn_up (h.l22_14 (dn_of hi hj (by decide))), l22_15 := fun hj => dn_up (h.l22_15 (dn_of hi hj (by decide))), l22_16 := fun hj => dn_up (h.l22_16 (dn_of hi hj (by decide))), l22_17 := fun hj => dn_up (h.l22_17 (dn_of hi hj (by decide))), l22_18 := fun hj => dn_up (h.l22_18 (dn_of hi hj (by decide))), l22_19 := fun hj => dn_up (h.l22_19 (dn_of hi hj (by decide))), l22_20 := fun hj => dn_up (h.l22_20 (dn_of hi hj (by decide))), l22_21 := fun hj => dn_up (h.l22_21 (dn_of hi hj (by decide))), p0 := rp hi h.p0, p1 := rp hi h.p1, p2 := rp hi h.p2, p3 := rp hi h.p3, p4 := rp hi h.p4, p6 := rp hi h.p6, p7 := rp hi h.p7, p8 := rp hi h.p8, p9 := rp hi h.p9, p10 := rp hi h.p10, p11 := fun _ => set_same (by have := h.siz; omega), p12 := rp hi h.p12, p13 := rp hi h.p13, p14 := rp hi h.p14, p15 := rp hi h.p15, p16 := rp hi h.p16, p17 := rp hi h.p17, p18 := rp hi h.p18, p19 := rp hi h.p19, p20 := rp hi h.p20, p21 := rp hi h.p21 }⟩
                · have hi : 12 < d.size := by omega
                  have e11 := h.p11 (hpre _ rfl ⟨11, .data⟩ (by simp) rfl)
                  have hnd' := not_dn hi hnd
                  have hz : ¬ 9223372036854775807 < 3 + x.text.size + 1 := by omega
                  refine wpOp_plain rfl rfl ?_
                  go_simp
                  exact ⟨_, rfl, { bel := h.bel, siz := (by simpa using h.siz), kp := rk h.kp, k5 := rs h.k5, k9 := rs h.k9, oth := fun hk => h.oth (fun q => hk (dn_up q)), sl := fun hj hk => by obtain ⟨g, e1, e2, e3⟩ := h.sl (dn_of hi hj (by decide)) (fun q => hk (dn_up q)); exact ⟨g, (set_other (by decide)).trans e1, e2, e3⟩, res := fun hj => absurd (h.l22_12 (dn_of hi hj (by decide))) hnd', l1_0 := fun hj => dn_up (h.l1_0 (dn_of hi hj (by decide))), l2_1 := fun hj => dn_up (h.l2_1 (dn_of hi hj (by decide))), l3_2 := fun hj => dn_up (h.l3_2 (dn_of hi hj (by decide))), l4_3 := fun hj => dn_up (h.l4_3 (dn_of hi hj (by decide))), l5_4 := fun hj => dn_up (h.l5_4 (dn_of hi hj (by decide))), l6_5 := fun hj => dn_up (h.l6_5 (dn_of hi hj (by decide))), l7_6 := fun hj => dn_up (h.l7_6 (dn_of hi hj (by decide))), l8_7 := fun hj => dn_up (h.l8_7 (dn_of hi hj (by decide))), l10_9 := fun hj => dn_up (h.l10_9 (dn_of hi hj (by decide))), l11_8 := fun hj => dn_up (h.l11_8 (dn_of hi hj (by decide))), l11_10 := fun hj => dn_up (h.l11_10 (dn_of hi hj (by decide))), l12_11 := fun _ => dn_up (hpre _ rfl ⟨11, .data⟩ (by simp) rfl), l14_13 := fun hj => dn_up (h.l14_13 (dn_of hi hj (by decide))), l15_14 := fun hj => dn_up (h.l15_14 (dn_of hi hj (by decide))), l16_12 := fun hj => dn_up (h.l16_12 (dn_of hi hj (by decide))), l16_15 := fun hj => dn_up (h.l16_15 (dn_of hi hj (by decide))), l17_16 := fun hj => dn_up (h.l17_16 (dn_of hi hj (by decide))), l19_18 := fun hj => dn_up (h.l19_18 (dn_of hi hj (by decide))), l20_19 := fun hj => dn_up (h.l20_19 (dn_of hi hj (by decide))), l21_17 := fun hj => dn_up (h.l21_17 (dn_of hi hj (by decide))), l21_20 := fun hj => dn_up (h.l21_20 (dn_of hi hj (by decide))), l22_0 := fun hj => dn_up (h.l22_0 (dn_of hi hj (by decide))), l22_1 := fun hj => dn_up (h.l22_1 (dn_of hi hj (by decide))), l22_2 := fun hj => dn_up (h.l22_2 (dn_of hi hj (by decide))), l22_3 := fun hj => dn_up (h.l22_3 (dn_of hi hj (by decide))), l22_4 := fun hj => dn_up (h.l22_4 (dn_of hi hj (by decide))), l22_5 := fun hj => dn_up (h.l22_5 (dn_of hi hj (by decide))), l22_6 := fun hj => dn_up (h.l22_6 (dn_of hi hj (by decide))), l22_7 := fun hj => dn_up (h.l22_7 (dn_of hi hj (by decide))), l22_8 := fun hj => dn_up (h.l22_8 (dn_of hi hj (by decide))), l22_9 := fun hj => dn_up (h.l22_9 (dn_of hi hj (by decide))), l22_10 := fun hj => dn_up (h.l22_10 (dn_of hi hj (by decide))), l22_11 := fun hj => dn_up (h.l22_11 (dn_of hi hj (by decide))), l22_12 := fun hj => dn_up (h.l22_12 (dn_of hi hj (by decide))), l22_13 := fun hj => dn_up (h.l22_13 (dn_of hi hj (by decide))), l22_14 := fun hj => dn_up (h.l22_14 (dn_of hi hj (by decide))), l22_15 := fun hj => dn_up (h.l22_15 (dn_of hi hj (by decide))), l22_16 := fun hj => dn_up (h.l22_16 (dn_of hi hj (by decide))), l22_17 := fun hj => dn_up (h.l22_17 (dn_of hi hj (by decide))), l22_18 := fun hj => dn_up (h.l22_18 (dn_of hi hj (by decide))), l22_19 := fun hj => dn_up (h.l22_19 (dn_of hi hj (by decide))), l22_20 := fun hj => dn_up (h.l22_20 (dn_of hi hj (by decide))), l22_21 := fun hj => dn_up (h.l22_21 (dn_of hi hj (by decide))), p0 := rp hi h.p0, p1 := rp hi h.p1, p2 := rp hi h.p2, p3 := rp hi h.p3, p4 := rp hi h.p4, p6 := rp hi h.p6, p7 := rp hi h.p7, p8 := rp hi h.p8, p9 := rp hi h.p9, p10 := rp hi h.p10, p11 := rp hi h.p11, p12 := fun _ => set_same (by have := h.siz; omega), p13 := rp hi h.p13, p14 := rp hi h.p14, p15 := rp hi h.p15, p16 := rp hi h.p16, p17 := rp hi h.p17, p18 := rp hi h.p18, p19 := rp hi h.p19, p20 := rp hi h.p20, p21 := rp hi h.p21 }⟩
                · have hi : 13 < d.size := by omega
                  have q9 := h.k9
                  have hnd' := not_dn hi hnd
                  refine wpOp_plain rfl rfl ?_
                  go_simp
                  exact ⟨_, rfl, { bel := h.bel, siz := (by simpa using h.siz), kp := rk h.kp, k5 := rs h.k5, k9 := rs h.k9, oth := fun hk => h.oth (fun q => hk (dn_up q)), sl := fun hj hk => by obtain ⟨g, e1, e2, e3⟩ := h.sl (dn_of hi hj (by decide)) (fun q => hk (dn_up q)); exact ⟨g, (set_other (by decide)).trans e1, e2, e3⟩, res := fun hj => absurd (h.l22_13 (dn_of hi hj (by decide))) hnd', l1_0 := fun hj => dn_up (h.l1_0 (dn_of hi hj (by decide))), l2_1 := fun hj => dn_up (h.l2_1 (dn_of hi hj (by decide))), l3_2 := fun hj => dn_up (h.l3_2 (dn_of hi hj (by decide))), l4_3 := fun hj => dn_up (h.l4_3 (dn_of hi hj (by decide))), l5_4 := fun hj => dn_up (h.l5_4 (dn_of hi hj (by decide))), l6_5 := fun hj => dn_up (h.l6_5 (dn_of hi hj (by decide))), l7_6 := fun hj => dn_up (h.l7_6 (dn_of hi hj (by decide))), l8_7 := fun hj => dn_up (h.l8_7 (dn_of hi hj (by decide))), l10_9 := fun hj => dn_up (h.l10_9 (dn_of hi hj (by decide))), l11_8 := fun hj => dn_up (h.l11_8 (dn_of hi hj (by decide))), l11_10 := fun hj => dn_up (h.l11_10 (dn_of hi hj (by decide))), l12_11 := fun hj => dn_up (h.l12_11 (dn_of hi hj (by decide))), l14_13 := fun hj => dn_up (h.l14_13 (dn_of hi hj (by decide))), l15_14 := fun hj => dn_up (h.l15_14 (dn_of hi hj (by decide))), l16_12 := fun hj => dn_up (h.l16_12 (dn_of hi hj (by decide))), l16_15 := fun hj => dn_up (h.l16_15 (dn_of hi hj (by decide))), l17_16 := fun hj => dn_up (h.l17_16 (dn_of hi hj (by decide))), l19_18 := fun hj => dn_up (h.l19_18 (dn_of hi hj (by decide))), l20_19 := fun hj => dn_up (h.l20_19 (dn_of hi hj (by decide))), l21_17 := fun hj => dn_up (h.l21_17 (dn_of hi hj (by decide))), l21_20 := fun hj => dn_up (h.l21_20 (dn_of hi hj (by decide))), l22_0 := fun hj => dn_up (h.l22_0 (dn_of hi hj (by decide))), l22_1 := fun hj => dn_up (h.l22_1 (dn_of hi hj (by decide))), l22_2 := fun hj => dn_up (h.l22_2 (dn_of hi hj (by decide))), l22_3 := fun hj => dn_up (h.l22_3 (dn_of hi hj (by decide))), l22_4 := fun hj => dn_up (h.l22_4 (dn_of hi hj (by decide))), l22_5 := fun hj => dn_up (h.l22_5 (dn_of hi hj (by decide))), l22_6 := fun hj => dn_up (h.l22_6 (dn_of hi hj (by decide))), l22_7 := fun hj => dn_up (h.l22_7 (dn_of hi hj (by decide))), l22_8 := fun hj => dn_up (h.l22_8 (dn_of hi hj (by decide))), l22_9 := fun hj => dn_up (h.l22_9 (dn_of hi hj (by decide))), l22_10 := fun hj => dn_up (h.l22_10 (dn_of hi hj (by decide))), l22_11 := fun hj => dn_up (h.l22_11 (dn_of hi hj (by decide))), l22_12 := fun hj => dn_up (h.l22_12 (dn_of hi hj (by decide))), l22_13 := fun hj => dn_up (h.l22_13 (dn_of hi hj (by decide))), l22_14 := fun hj => dn_up (h.l22_14 (dn_of hi hj (by decide))), l22_15 := fun hj => dn_up (h.l22_15 (dn_of hi hj (by decide))), l22_16 := fun hj => dn_up (h.l22_16 (dn_of hi hj (by decide))), l22_17 := fun hj => dn_up (h.l22_17 (dn_of hi hj (by decide))), l22_18 := fun hj => dn_up (h.l22_18 (dn_of hi hj (by decide))), l22_19 := fun hj => dn_up (h.l22_19 (dn_of hi hj (by decide))), l22_20 := fun hj => dn_up (h.l22_20 (dn_of hi hj (by decide))), l22_21 := fun hj => dn_up (h.l22_21 (dn_of hi hj (by decide))), p0 := rp hi h.p0, p1 := rp hi h.p1, p2 := rp hi h.p2, p3 := rp hi h.p3, p4 := rp hi h.p4, p6 := rp hi h.p6, p7 := rp hi h.p7, p8 := rp hi h.p8, p9 := rp hi h.p9, p10 := rp hi h.p10, p11 := rp hi h.p11, p12 := rp hi h.p12, p13 := fun _ => set_same (by have := h.siz; omega), p14 := rp hi h.p14, p15 := rp hi h.p15, p16 := rp hi h.p16, p17 := rp hi h.p17, p18 := rp hi h.p18, p19 := rp hi h.p19, p20 := rp hi h.p20, p21 := rp hi h.p21 }⟩
                · have hi : 14 < d.size := by omega
                  have e13 := h.p13 (hpre _ rfl ⟨13, .data⟩ (by simp) rfl)
                  have hnd' := not_dn hi hnd
                  have h7 : ¬ dn d 22 := fun q => hnd' (h.l22_14 q)
                  obtain ⟨m0, m1, m2, m3⟩ := four_cellsV (((h.oth h7).block eb hE).trans HEN.out)
                  refine wpOp_plain rfl rfl ?_
                  go_simp
                  exact ⟨_, rfl, { bel := h.bel, siz := (by simpa using h.siz), kp := rk h.kp, k5 := rs h.k5, k9 := rs h.k9, oth := fun hk => h.oth (fun q => hk (dn_up q)), sl := fun hj hk => by obtain ⟨g, e1, e2, e3⟩ := h.sl (dn_of hi hj (by decide)) (fun q => hk (dn_up q)); exact ⟨g, (set_other (by decide)).trans e1, e2, e3⟩, res := fun hj => absurd (h.l22_14 (dn_of hi hj (by decide))) hnd', l1_0 := fun hj => dn_up (h.l1_0 (dn_of hi hj (by decide))), l2_1 := fun hj => dn_up (h.l2_1 (dn_of hi hj (by decide))), l3_2 := fun hj => dn_up (h.l3_2 (dn_of hi hj (by decide))), l4_3 := fun hj => dn_up (h.l4_3 (dn_of hi hj (by decide))), l5_4 := fun hj => dn_up (h.l5_4 (dn_of hi hj (by decide))), l6_5 := fun hj => dn_up (h.l6_5 (dn_of hi hj (by decide))), l7_6 := fun hj => dn_up (h.l7_6 (dn_of hi hj (by decide))), l8_7 := fun hj => dn_up (h.l8_7 (dn_of hi hj (by decide))), l10_9 := fun hj => dn_up (h.l10_9 (dn_of hi hj (by decide))), l11_8 := fun hj => dn_up (h.l11_8 (dn_of hi hj (by decide))), l11_10 := fun hj => dn_up (h.l11_10 (dn_of hi hj (by decide))), l12_11 := fun hj => dn_up (h.l12_11 (dn_of hi hj (by decide))), l14_13 := fun _ => dn_up (hpre _ rfl ⟨13, .data⟩ (by simp) rfl), l15_14 := fun hj => dn_up (h.l15_14 (dn_of hi hj (by decide))), l16_12 := fun hj => dn_up (h.l16_12 (dn_of hi hj (by decide))), l16_15 := fun hj => dn_up (h.l16_15 (dn_of hi hj (by decide))), l17_16 := fun hj => dn_up (h.l17_16 (dn_of hi hj (by decide))), l19_18 := fun hj => dn_up (h.l19_18 (dn_of hi hj (by decide))), l20_19 := fun hj => dn_up (h.l20_19 (dn_of hi hj (by decide))), l21_17 := fun hj => dn_up (h.l21_17 (dn_of hi hj (by decide))), l21_20 := fun hj => dn_up (h.l21_20 (dn_of hi hj (by decide))), l22_0 := fun hj => dn_up (h.l22_0 (dn_of hi hj (by decide))), l22_1 := fun hj => dn_up (h.l22_1 (dn_of hi hj (by decide))), l22_2 := fun hj => dn_up (h.l22_2 (dn_of hi hj (by decide))), l22_3 := fun hj => dn_up (h.l22_3 (dn_of hi hj (by decide))), l22_4 := fun hj => dn_up (h.l22_4 (dn_of hi hj (by decide))), l22_5 := fun hj => dn_up (h.l22_5 (dn_of hi hj (by decide))), l22_6 := fun hj => dn_up (h.l22_6 (dn_of hi hj (by decide))), l22_7 := fun hj => dn_up (h.l22_7 (dn_of hi hj (by decide))), l22_8 := fun hj => dn_up (h.l22_8 (dn_of hi hj (by decide))), l22_9 := fun hj => dn_up (h.l22_9 (dn_of hi hj (by decide))), l22_10 := fun hj => dn_up (h.l22_10 (dn_of hi hj (by decide))), l22_11 := fun hj => dn_up (h.l22_11 (dn_of hi hj (by decide))), l22_12 := fun hj => dn_up (h.l22_12 (dn_of hi hj (by decide))), l22_13 := fun hj => dn_up (h.l22_13 (dn_of hi hj (by decide))), l22_14 := fun hj => dn_up (h.l22_14 (dn_of hi hj (by decide))), l22_15 := fun hj => dn_up (h.l22_15 (dn_of hi hj (by decide))), l22_16 := fun hj => dn_up (h.l22_16 (dn_of hi hj (by decide))), l22_17 := fun hj => dn_up (h.l22_17 (dn_of hi hj (by decide))), l22_18 := fun hj => dn_up (h.l22_18 (dn_of hi hj (by decide))), l22_19 := fun hj => dn_up (h.l22_19 (dn_of hi hj (by decide))), l22_20 := fun hj => dn_up (h.l22_20 (dn_of hi hj (by decide))), l22_21 := fun hj => dn_up (h.l22_21 (dn_of hi hj (by decide))), p0 := rp hi h.p0, p1 := rp hi h.p1, p2 := rp hi h.p2, p3 := rp hi h.p3, p4 := rp hi h.p4, p6 := rp hi h.p6, p7 := rp hi h.p7, p8 := rp hi h.p8, p9 := rp hi h.p9, p10 := rp hi h.p10, p11 := rp hi h.p11, p12 := rp hi h.p12, p13 := rp hi h.p13, p14 := fun _ => set_same (by have := h.siz; omega), p15 := rp hi h.p15, p16 := rp hi h.p16, p17 := rp hi h.p17, p18 := rp hi h.p18, p19 := rp hi h.p19, p20 := rp hi h.p20, p21 := rp hi h.p21 }⟩
                · have hi : 15 < d.size := by omega
                  have hnd' := not_dn hi hnd
                  have d14 : dn d 14 := hpre _ rfl ⟨14, .data⟩ (by simp) rfl
                  have e14 := h.p14 d14
                  refine wpOp_plain rfl rfl ?_
                  go_simp
                  refine (HIL.out wc).mono ?_
                  rintro e1 w1 ⟨rfl, rfl⟩
                  exact ⟨_, rfl, { bel := h.bel, siz := (by simpa using h.siz), kp := rk h.kp, k5 := rs h.k5, k9 := rs h.k9, oth := fun hk => h.oth (fun q => hk (dn_up q)), sl := fun hj hk => by obtain ⟨g, e1, e2, e3⟩ := h.sl (dn_of hi hj (by decide)) (fun q => hk (dn_up q)); exact ⟨g, (set_other (by decide)).trans e1, e2, e3⟩, res := fun hj => absurd (h.l22_15 (dn_of hi hj (by decide))) hnd', l1_0 := fun hj => dn_up (h.l1_0 (dn_of hi hj (by decide))), l2_1 := fun hj => dn_up (h.l2_1 (dn_of hi hj (by decide))), l3_2 := fun hj => dn_up (h.l3_2 (dn_of hi hj (by decide))), l4_3 := fun hj => dn_up (h.l4_3 (dn_of hi hj (by decide))), l5_4 := fun hj => dn_up (h.l5_4 (dn_of hi hj (by decide))), l6_5 := fun hj => dn_up (h.l6_5 (dn_of hi hj (by decide))), l7_6 := fun hj => dn_up (h.l7_6 (dn_of hi hj (by decide))), l8_7 := fun hj => dn_up (h.l8_7 (dn_of hi hj (by decide))), l10_9 := fun hj => dn_up (h.l10_9 (dn_of hi hj (by decide))), l11_8 := fun hj => dn_up (h.l11_8 (dn_of hi hj (by decide))), l11_10 := fun hj => dn_up (h.l11_10 (dn_of hi hj (by decide))), l12_11 := fun hj => dn_up (h.l12_11 (dn_of hi hj (by decide))), l14_13 := fun hj => dn_up (h.l14_13 (dn_of hi hj (by decide))), l15_14 := fun _ => dn_up (hpre _ rfl ⟨14, .data⟩ (by simp) rfl), l16_12 := fun hj => dn_up (h.l16_12 (dn_of hi hj (by decide))), l16_15 := fun hj => dn_up (h.l16_15 (dn_of hi hj (by decide))), l17_16 := fun hj => dn_up (h.l17_16 (dn_of hi hj (by decide))), l19_18 := fun hj => dn_up (h.l19_18 (dn_of hi hj (by decide))), l20_19 := fun hj => dn_up (h.l20_19 (dn_of hi hj (by decide))), l21_17 := fun hj => dn_up (h.l21_17 (dn_of hi hj (by decide))), l21_20 := fun hj => dn_up (h.l21_20 (dn_of hi hj (by decide))), l22_0 := fun hj => dn_up (h.l22_0 (dn_of hi hj (by decide))), l22_1 := fun hj => dn_up (h.l22_1 (dn_of hi hj (by decide))), l22_2 := fun hj => dn_up (h.l22_2 (dn_of hi hj (by decide))), l22_3 := fun hj => dn_up (h.l22_3 (dn_of hi hj (by decide))), l22_4 := fun hj => dn_up (h.l22_4 (dn_of hi hj (by decide))), l22_5 := fun hj => dn_up (h.l22_5 (dn_of hi hj (by decide))), l22_6 := fun hj => dn_up (h.l22_6 (dn_of hi hj (by decide))), l22_7 := fun hj => dn_up (h.l22_7 (dn_of hi hj (by decide))), l22_8 := fun hj => dn_up (h.l22_8 (dn_of hi hj (by decide))), l22_9 := fun hj => dn_up (h.l22_9 (dn_of hi hj (by decide))), l22_10 := fun hj => dn_up (h.l22_10 (dn_of hi hj (by decide))), l22_11 := fun hj => dn_up (h.l22_11 (dn_of hi hj (by decide))), l22_12 := fun hj => dn_up (h.l22_12 (dn_of hi hj (by decide))), l22_13 := fun hj => dn_up (h.l22_13 (dn_of hi hj (by decide))), l22_14 := fun hj => dn_up (h.l22_14 (dn_of hi hj (by decide))), l22_15 := fun hj => dn_up (h.l22_15 (dn_of hi hj (by decide))), l22_16 := fun hj => dn_up (h.l22_16 (dn_of hi hj (by decide))), l22_17 := fun hj => dn_up (h.l22_17 (dn_of hi hj (by decide))), l22_18 := fun hj => dn_up (h.l22_18 (dn_of hi hj (by decide))), l22_19 := fun hj => dn_up (h.l22_19 (dn_of hi hj (by decide))), l22_20 := fun hj => dn_up (h.l22_20 (dn_of hi hj (by decide))), l22_21 := fun hj => dn_up (h.l22_21 (dn_of hi hj (by decide))), p0 := rp hi h.p0, p1 := rp hi h.p1, p2 := rp hi h.p2, p3 := rp hi h.p3, p4 := rp hi h.p4, p6 := rp hi h.p6, p7 := rp hi h.p7, p8 := rp hi h.p8, p9 := rp hi h.p9, p10 := rp hi h.p10, p11 := rp hi h.p11, p12 := rp hi h.p12, p13 := rp hi h.p13, p14 := rp hi h.p14, p15 := fun _ => set_same (by have := h.siz; omega), p16 := rp hi h.p16, p17 := rp hi h.p17, p18 := rp hi h.p18, p19 := rp hi h.p19, p20 := rp hi h.p20, p21 := rp hi h.p21 }⟩
                · have hi : 16 < d.size := by omega
                  have e12 := h.p12 (hpre _ rfl ⟨12, .data⟩ (by simp) rfl)
                  have e15 := h.p15 (hpre _ rfl ⟨15, .data⟩ (by simp) rfl)
                  have hnd' := not_dn hi hnd
                  have hz : ¬ 9223372036854775807 < 3 + x.text.size + 1 + il.size := by omega
                  refine wpOp_plain rfl rfl ?_
                  go_simp
                  exact ⟨_, rfl, { bel := h.bel, siz := (by simpa using h.siz), kp := rk h.kp, k5 := rs h.k5, k9 := rs h.k9, oth := fun hk => h.oth (fun q => hk (dn_up q)), sl := fun hj hk => by obtain ⟨g, e1, e2, e3⟩ := h.sl (dn_of hi hj (by decide)) (fun q => hk (dn_up q)); exact ⟨g, (set_other (by decide)).trans e1, e2, e3⟩, res := fun hj => absurd (h.l22_16 (dn_of hi hj (by decide))) hnd', l1_0 := fun hj => dn_up (h.l1_0 (dn_of hi hj (by decide))), l2_1 := fun hj => dn_up (h.l2_1 (dn_of hi hj (by decide))), l3_2 := fun hj => dn_up (h.l3_2 (dn_of hi hj (by decide))), l4_3 := fun hj => dn_up (h.l4_3 (dn_of hi hj (by decide))), l5_4 := fun hj => dn_up (h.l5_4 (dn_of hi hj (by decide))), l6_5 := fun hj => dn_up (h.l6_5 (dn_of hi hj (by decide))), l7_6 := fun hj => dn_up (h.l7_6 (dn_of hi hj (by decide))), l8_7 := fun hj => dn_up (h.l8_7 (dn_of hi hj (by decide))), l10_9 := fun hj => dn_up (h.l10_9 (dn_of hi hj (by decide))), l11_8 := fun hj => dn_up (h.l11_8 (dn_of hi hj (by decide))), l11_10 := fun hj => dn_up (h.l11_10 (dn_of hi hj (by decide))), l12_11 := fun hj => dn_up (h.l12_11 (dn_of hi hj (by decide))), l14_13 := fun hj => dn_up (h.l14_13 (dn_of hi hj (by decide))), l15_14 := fun hj => dn_up (h.l15_14 (dn_of hi hj (by decide))), l16_12 := fun _ => dn_up (hpre _ rfl ⟨12, .data⟩ (by simp) rfl), l16_15 := fun _ => dn_up (hpre _ rfl ⟨15, .data⟩ (by simp) rfl), l17_16 := fun hj => dn_up (h.l17_16 (dn_of hi hj (by decide))), l19_18 := fun hj => dn_up (h.l19_18 (dn_of hi hj (by decide))), l20_19 := fun hj => dn_up (h.l20_19 (dn_of hi hj (by decide))), l21_17 := fun hj => dn_up (h.l21_17 (dn_of hi hj (by decide))), l21_20 := fun hj => dn_up (h.l21_20 (dn_of hi hj (by decide))), l22_0 := fun hj => dn_up (h.l22_0 (dn_of hi hj (by decide))), l22_1 := fun hj => dn_up (h.l22_1 (dn_of hi hj (by decide))), l22_2 := fun hj => dn_up (h.l22_2 (dn_of hi hj (by decide))), l22_3 := fun hj => dn_up (h.l22_3 (dn_of hi hj (by decide))), l22_4 := fun hj => dn_up (h.l22_4 (dn_of hi hj (by decide))), l22_5 := fun hj => dn_up (h.l22_5 (dn_of hi hj (by decide))), l22_6 := fun hj => dn_up (h.l22_6 (dn_of hi hj (by decide))), l22_7 := fun hj => dn_up (h.l22_7 (dn_of hi hj (by decide))), l22_8 := fun hj => dn_up (h.l22_8 (dn_of hi hj (by decide))), l22_9 := fun hj => dn_up (h.l22_9 (dn_of hi hj (by decide))), l22_10 := fun hj => dn_up (h.l22_10 (dn_of hi hj (by decide))), l22_11 := fun hj => dn_up (h.l22_11 (dn_of hi hj (by decide))), l22_12 := fun hj => dn_up (h.l22_12 (dn_of hi hj (by decide))), l22_13 := fun hj => dn_up (h.l22_13 (dn_of hi hj (by decide))), l22_14 := fun hj => dn_up (h.l22_14 (dn_of hi hj (by decide))), l22_15 := fun hj => dn_up (h.l22_15 (dn_of hi hj (by decide))), l22_16 := fun hj => dn_up (h.l22_16 (dn_of hi hj (by decide))), l22_17 := fun hj => dn_up (h.l22_17 (dn_of hi hj (by decide))), l22_18 := fun hj => dn_up (h.l22_18 (dn_of hi hj (by decide))), l22_19 := fun hj => dn_up (h.l22_19 (dn_of hi hj (by decide))), l22_20 := fun hj => dn_up (h.l22_20 (dn_of hi hj (by decide))), l22_21 := fun hj => dn_up (h.l22_21 (dn_of hi hj (by decide))), p0 := rp hi h.p0, p1 := rp hi h.p1, p2 := rp hi h.p2, p3 := rp hi h.p3, p4 := rp hi h.p4, p6 := rp hi h.p6, p7 := rp hi h.p7, p8 := rp hi h.p8, p9 := rp hi h.p9, p10 := rp hi h.p10, p11 := rp hi h.p11, p12 := rp hi h.p12, p13 := rp hi h.p13, p14 := rp hi h.p14, p15 := rp hi h.p15, p16 := fun _ => set_same (by have := h.siz; omega), p17 := rp hi h.p17, p18 := rp hi h.p18, p19 := rp hi h.p19, p20 := rp hi h.p20, p21 := rp hi h.p21 }⟩
                · have hi : 17 < d.size := by omega
                  have e16 := h.p16 (hpre _ rfl ⟨16, .data⟩ (by simp) rfl)
                  have hnd' := not_dn hi hnd
                  have hz : ¬ 9223372036854775807 < 3 + x.text.size + 1 + il.size + 1 := by omega
                  refine wpOp_plain rfl rfl ?_
                  go_simp
                  exact ⟨_, rfl, { bel := h.bel, siz := (by simpa using h.siz), kp := rk h.kp, k5 := rs h.k5, k9 := rs h.k9, oth := fun hk => h.oth (fun q => hk (dn_up q)), sl := fun hj hk => by obtain ⟨g, e1, e2, e3⟩ := h.sl (dn_of hi hj (by decide)) (fun q => hk (dn_up q)); exact ⟨g, (set_other (by decide)).trans e1, e2, e3⟩, res := fun hj => absurd (h.l22_17 (dn_of hi hj (by decide))) hnd', l1_0 := fun hj => dn_up (h.l1_0 (dn_of hi hj (by decide))), l2_1 := fun hj => dn_up (h.l2_1 (dn_of hi hj (by decide))), l3_2 := fun hj => dn_up (h.l3_2 (dn_of hi hj (by decide))), l4_3 := fun hj => dn_up (h.l4_3 (dn_of hi hj (by decide))), l5_4 := fun hj => dn_up (h.l5_4 (dn_of hi hj (by decide))), l6_5 := fun hj => dn_up (h.l6_5 (dn_of hi hj (by decide))), l7_6 := fun hj => dn_up (h.l7_6 (dn_of hi hj (by decide))), l8_7 := fun hj => dn_up (h.l8_7 (dn_of hi hj (by decide))), l10_9 := fun hj => dn_up (h.l10_9 (dn_of hi hj (by decide))), l11_8 := fun hj => dn_up (h.l11_8 (dn_of hi hj (by decide))), l11_10 := fun hj => dn_up (h.l11_10 (dn_of hi hj (by decide))), l12_11 := fun hj => dn_up (h.l12_11 (dn_of hi hj (by decide))), l14_13 := fun hj => dn_up (h.l14_13 (dn_of hi hj (by decide))), l15_14 := fun hj => dn_up (h.l15_14 (dn_of hi hj (by decide))), l16_12 := fun hj => dn_up (h.l16_12 (dn_of hi hj (by decide))), l16_15 := fun hj => dn_up (h.l16_15 (dn_of hi hj (by decide))), l17_16 := fun _ => dn_up (hpre _ rfl ⟨16, .data⟩ (by simp) rfl), l19_18 := fun hj => dn_up (h.l19_18 (dn_of hi hj (by decide))), l20_19 := fun hj => dn_up (h.l20_19 (dn_of hi hj (by decide))), l21_17 := fun hj => dn_up (h.l21_17 (dn_of hi hj (by decide))), l21_20 := fun hj => dn_up (h.l21_20 (dn_of hi hj (by decide))), l22_0 := fun hj => dn_up (h.l22_0 (dn_of hi hj (by decide))), l22_1 := fun hj => dn_up (h.l22_1 (dn_of hi hj (by decide))), l22_2 := fun hj => dn_up (h.l22_2 (dn_of hi hj (by decide))), l22_3 := fun hj => dn_up (h.l22_3 (dn_of hi hj (by decide))), l22_4 := fun hj => dn_up (h.l22_4 (dn_of hi hj (by decide))), l22_5 := fun hj => dn_up (h.l22_5 (dn_of hi hj (by decide))), l22_6 := fun hj => dn_up (h.l22_6 (dn_of hi hj (by decide))), l22_7 := fun hj => dn_up (h.l22_7 (dn_of hi hj (by decide))), l22_8 := fun hj => dn_up (h.l22_8 (dn_of hi hj (by decide))), l22_9 := fun hj => dn_up (h.l22_9 (dn_of hi hj (by decide))), l22_10 := fun hj => dn_up (h.l22_10 (dn_of hi hj (by decide))), l22_11 := fun hj => dn_up (h.l22_11 (dn_of hi hj (by decide))), l22_12 := fun hj => dn_up (h.l22_12 (dn_of hi hj (by decide))), l22_13 := fun hj => dn_up (h.l22_13 (dn_of hi hj (by decide))), l22_14 := fun hj => dn_up (h.l22_14 (dn_of hi hj (by decide))), l22_15 := fun hj => dn_up (h.l22_15 (dn_of hi hj (by decide))), l22_16 := fun hj => dn_up (h.l22_16 (dn_of hi hj (by decide))), l22_17 := fun hj => dn_up (h.l22_17 (dn_of hi hj (by decide))), l22_18 := fun hj => dn_up (h.l22_18 (dn_of hi hj (by decide))), l22_19 := fun hj => dn_up (h.l22_19 (dn_of hi hj (by decide))), l22_20 := fun hj => dn_up (h.l22_20 (dn_of hi hj (by decide))), l22_21 := fun hj => dn_up (h.l22_21 (dn_of hi hj (by decide))), p0 := rp hi h.p0, p1 := rp hi h.p1, p2 := rp hi h.p2, p3 := rp hi h.p3, p4 := rp hi h.p4, p6 := rp hi h.p6, p7 := rp hi h.p7, p8 := rp hi h.p8, p9 := rp hi h.p9, p10 := rp hi h.p10, p11 := rp hi h.p11, p12 := rp hi h.p12, p13 := rp hi h.p13, p14 := rp hi h.p14, p15 := rp hi h.p15, p16 := rp hi h.p16, p17 := fun _ => set_same (by have := h.siz; omega), p18 := rp hi h.p18, p19 := rp hi h.p19, p20 := rp hi h.p20, p21 := rp hi h.p21 }⟩
                · have hi : 18 < d.size := by omega
                  have q9 := h.k9
                  have hnd' := not_dn hi hnd
                  refine wpOp_plain rfl rfl ?_
                  go_simp
                  exact ⟨_, rfl, { bel := h.bel, siz := (by simpa using h.siz), kp := rk h.kp, k5 := rs h.k5, k9 := rs h.k9, oth := fun hk => h.oth (fun q => hk (dn_up q)), sl := fun hj hk => by obtain ⟨g, e1, e2, e3⟩ := h.sl (dn_of hi hj (by decide)) (fun q => hk (dn_up q)); exact ⟨g, (set_other (by decide)).trans e1, e2, e3⟩, res := fun hj => absurd (h.l22_18 (dn_of hi hj (by decide))) hnd', l1_0 := fun hj => dn_up (h.l1_0 (dn_of hi hj (by decide))), l2_1 := fun hj => dn_up (h.l2_1 (dn_of hi hj (by decide))), l3_2 := fun hj => dn_up (h.l3_2 (dn_of hi hj (by decide))), l4_3 := fun hj => dn_up (h.l4_3 (dn_of hi hj (by decide))), l5_4 := fun hj => dn_up (h.l5_4 (dn_of hi hj (by decide))), l6_5 := fun hj => dn_up (h.l6_5 (dn_of hi hj (by decide))), l7_6 := fun hj => dn_up (h.l7_6 (dn_of hi hj (by decide))), l8_7 := fun hj => dn_up (h.l8_7 (dn_of hi hj (by decide))), l10_9 := fun hj => dn_up (h.l10_9 (dn_of hi hj (by decide))), l11_8 := fun hj => dn_up (h.l11_8 (dn_of hi hj (by decide))), l11_10 := fun hj => dn_up (h.l11_10 (dn_of hi hj (by decide))), l12_11 := fun hj => dn_up (h.l12_11 (dn_of hi hj (by decide))), l14_13 := fun hj => dn_up (h.l14_13 (dn_of hi hj (by decide))), l15_14 := fun hj => dn_up (h.l15_14 (dn_of hi hj (by decide))), l16_12 := fun hj => dn_up (h.l16_12 (dn_of hi hj (by decide))), l16_15 := fun hj => dn_up (h.l16_15 (dn_of hi hj (by decide))), l17_16 := fun hj => dn_up (h.l17_16 (dn_of hi hj (by decide))), l19_18 := fun hj => dn_up (h.l19_18 (dn_of hi hj (by decide))), l20_19 := fun hj => dn_up (h.l20_19 (dn_of hi hj (by decide))), l21_17 := fun hj => dn_up (h.l21_17 (dn_of hi hj (by decide))), l21_20 := fun hj => dn_up (h.l21_20 (dn_of hi hj (by decide))), l22_0 := fun hj => dn_up (h.l22_0 (dn_of hi hj (by decide))), l22_1 := fun hj => dn_up (h.l22_1 (dn_of hi hj (by decide))), l22_2 := fun hj => dn_up (h.l22_2 (dn_of hi hj (by decide))), l22_3 := fun hj => dn_up (h.l22_3 (dn_of hi hj (by decide))), l22_4 := fun hj => dn_up (h.l22_4 (dn_of hi hj (by decide))), l22_5 := fun hj => dn_up (h.l22_5 (dn_of hi hj (by decide))), l22_6 := fun hj => dn_up (h.l22_6 (dn_of hi hj (by decide))), l22_7 := fun hj => dn_up (h.l22_7 (dn_of hi hj (by decide))), l22_8 := fun hj => dn_up (h.l22_8 (dn_of hi hj (by decide))), l22_9 := fun hj => dn_up (h.l22_9 (dn_of hi hj (by decide))), l22_10 := fun hj => dn_up (h.l22_10 (dn_of hi hj (by decide))), l22_11 := fun hj => dn_up (h.l22_11 (dn_of hi hj (by decide))), l22_12 := fun hj => dn_up (h.l22_12 (dn_of hi hj (by decide))), l22_13 := fun hj => dn_up (h.l22_13 (dn_of hi hj (by decide))), l22_14 := fun hj => dn_up (h.l22_14 (dn_of hi hj (by decide))), l22_15 := fun hj => dn_up (h.l22_15 (dn_of hi hj (by decide))), l22_16 := fun hj => dn_up (h.l22_16 (dn_of hi hj (by decide))), l22_17 := fun hj => dn_up (h.l22_17 (dn_of hi hj (by decide))), l22_18 := fun hj => dn_up (h.l22_18 (dn_of hi hj (by decide))), l22_19 := fun hj => dn_up (h.l22_19 (dn_of hi hj (by decide))), l22_20 := fun hj => dn_up (h.l22_20 (dn_of hi hj (by decide))), l22_21 := fun hj => dn_up (h.l22_21 (dn_of hi hj (by decide))), p0 := rp hi h.p0, p1 := rp hi h.p1, p2 := rp hi h.p2, p3 := rp hi h.p3, p4 := rp hi h.p4, p6 := rp hi h.p6, p7 := rp hi h.p7, p8 := rp hi h.p8, p9 := rp hi h.p9, p10 := rp hi h.p10, p11 := rp hi h.p11, p12 := rp hi h.p12, p13 := rp hi h.p13, p14 := rp hi h.p14, p15 := rp hi h.p15, p16 := rp hi h.p16, p17 := rp hi h.p17, p18 := fun _ => set_same (by have := h.siz; omega), p19 := rp hi h.p19, p20 := rp hi h.p20, p21 := rp hi h.p21 }⟩
                · have hi : 19 < d.size := by omega
                  have e18 := h.p18 (hpre _ rfl ⟨18, .data⟩ (by simp) rfl)
                  have hnd' := not_dn hi hnd
                  have h7 : ¬ dn d 22 := fun q => hnd' (h.l22_19 q)
                  obtain ⟨m0, m1, m2, m3⟩ := four_cellsV (((h.oth h7).block eb hE).trans HEN.out)
                  refine wpOp_plain rfl rfl ?_
                  go_simp
                  exact ⟨_, rfl, { bel := h.bel, siz := (by simpa using h.siz), kp := rk h.kp, k5 := rs h.k5, k9 := rs h.k9, oth := fun hk => h.oth (fun q => hk (dn_up q)), sl := fun hj hk => by obtain ⟨g, e1, e2, e3⟩ := h.sl (dn_of hi hj (by decide)) (fun q => hk (dn_up q)); exact ⟨g, (set_other (by decide)).trans e1, e2, e3⟩, res := fun hj => absurd (h.l22_19 (dn_of hi hj (by decide))) hnd', l1_0 := fun hj => dn_up (h.l1_0 (dn_of hi hj (by decide))), l2_1 := fun hj => dn_up (h.l2_1 (dn_of hi hj (by decide))), l3_2 := fun hj => dn_up (h.l3_2 (dn_of hi hj (by decide))), l4_3 := fun hj => dn_up (h.l4_3 (dn_of hi hj (by decide))), l5_4 := fun hj => dn_up (h.l5_4 (dn_of hi hj (by decide))), l6_5 := fun hj => dn_up (h.l6_5 (dn_of hi hj (by decide))), l7_6 := fun hj => dn_up (h.l7_6 (dn_of hi hj (by decide))), l8_7 := fun hj => dn_up (h.l8_7 (dn_of hi hj (by decide))), l10_9 := fun hj => dn_up (h.l10_9 (dn_of hi hj (by decide))), l11_8 := fun hj => dn_up (h.l11_8 (dn_of hi hj (by decide))), l11_10 := fun hj => dn_up (h.l11_10 (dn_of hi hj (by decide))), l12_11 := fun hj => dn_up (h.l12_11 (dn_of hi hj (by decide))), l14_13 := fun hj => dn_up (h.l14_13 (dn_of hi hj (by decide))), l15_14 := fun hj => dn_up (h.l15_14 (dn_of hi hj (by decide))), l16_12 := fun hj => dn_up (h.l16_12 (dn_of hi hj (by decide))), l16_15 := fun hj => dn_up (h.l16_15 (dn_of hi hj (by decide))), l17_16 := fun hj => dn_up (h.l17_16 (dn_of hi hj (by decide))), l19_18 := fun _ => dn_up (hpre _ rfl ⟨18, .data⟩ (by simp) rfl), l20_19 := fun hj => dn_up (h.l20_19 (dn_of hi hj (by decide))), l21_17 := fun hj => dn_up (h.l21_17 (dn_of hi hj (by decide))), l21_20 := fun hj => dn_up (h.l21_20 (dn_of hi hj (by decide))), l22_0 := fun hj => dn_up (h.l22_0 (dn_of hi hj (by decide))), l22_1 := fun hj => dn_up (h.l22_1 (dn_of hi hj (by decide))), l22_2 := fun hj => dn_up (h.l22_2 (dn_of hi hj (by decide))), l22_3 := fun hj => dn_up (h.l22_3 (dn_of hi hj (by decide))), l22_4 := fun hj => dn_up (h.l22_4 (dn_of hi hj (by decide))), l22_5 := fun hj => dn_up (h.l22_5 (dn_of hi hj (by decide))), l22_6 := fun hj => dn_up (h.l22_6 (dn_of hi hj (by decide))), l22_7 := fun hj => dn_up (h.l22_7 (dn_of hi hj (by decide))), l22_8 := fun hj => dn_up (h.l22_8 (dn_of hi hj (by decide))), l22_9 := fun hj => dn_up (h.l22_9 (dn_of hi hj (by decide))), l22_10 := fun hj => dn_up (h.l22_10 (dn_of hi hj (by decide))), l22_11 := fun hj => dn_up (h.l22_11 (dn_of hi hj (by decide))), l22_12 := fun hj => dn_up (h.l22_12 (dn_of hi hj (by decide))), l22_13 := fun hj => dn_up (h.l22_13 (dn_of hi hj (by decide))), l22_14 := fun hj => dn_up (h.l22_14 (dn_of hi hj (by decide))), l22_15 := fun hj => dn_up (h.l22_15 (dn_of hi hj (by decide))), l22_16 := fun hj => dn_up (h.l22_16 (dn_of hi hj (by decide))), l22_17 := fun hj => dn_up (h.l22_17 (dn_of hi hj (by decide))), l22_18 := fun hj => dn_up (h.l22_18 (dn_of hi hj (by decide))), l22_19 := fun hj => dn_up (h.l22_19 (dn_of hi hj (by decide))), l22_20 := fun hj => dn_up (h.l22_20 (dn_of hi hj (by decide))), l22_21 := fun hj => dn_up (h.l22_21 (dn_of hi hj (by decide))), p0 := rp hi h.p0, p1 := rp hi h.p1, p2 := rp hi h.p2, p3 := rp hi h.p3, p4 := rp hi h.p4, p6 := rp hi h.p6, p7 := rp hi h.p7, p8 := rp hi h.p8, p9 := rp hi h.p9, p10 := rp hi h.p10, p11 := rp hi h.p11, p12 := rp hi h.p12, p13 := rp hi h.p13, p14 := rp hi h.p14, p15 := rp hi h.p15, p16 := rp hi h.p16, p17 := rp hi h.p17, p18 := rp hi h.p18, p19 := fun _ => set_same (by have := h.siz; omega), p20 := rp hi h.p20, p21 := rp hi h.p21 }⟩
                · have hi : 20 < d.size := by omega
                  have hnd' := not_dn hi hnd
                  have d19 : dn d 19 := hpre _ rfl ⟨19, .data⟩ (by simp) rfl
                  have e19 := h.p19 d19
                  refine wpOp_plain rfl rfl ?_
                  go_simp
                  refine (HIH.out wc).mono ?_
                  rintro e1 w1 ⟨rfl, rfl⟩
                  exact ⟨_, rfl, { bel := h.bel, siz := (by simpa using h.siz), kp := rk h.kp, k5 := rs h.k5, k9 := rs h.k9, oth := fun hk => h.oth (fun q => hk (dn_up q)), sl := fun hj hk => by obtain ⟨g, e1, e2, e3⟩ := h.sl (dn_of hi hj (by decide)) (fun q => hk (dn_up q)); exact ⟨g, (set_other (by decide)).trans e1, e2, e3⟩, res := fun hj => absurd (h.l22_20 (dn_of hi hj (by decide))) hnd', l1_0 := fun hj => dn_up (h.l1_0 (dn_of hi hj (by decide))), l2_1 := fun hj => dn_up (h.l2_1 (dn_of hi hj (by decide))), l3_2 := fun hj => dn_up (h.l3_2 (dn_of hi hj (by decide))), l4_3 := fun hj => dn_up (h.l4_3 (dn_of hi hj (by decide))), l5_4 := fun hj => dn_up (h.l5_4 (dn_of hi hj (by decide))), l6_5 := fun hj => dn_up (h.l6_5 (dn_of hi hj (by decide))), l7_6 := fun hj => dn_up (h.l7_6 (dn_of hi hj (by decide))), l8_7 := fun hj => dn_up (h.l8_7 (dn_of hi hj (by decide))), l10_9 := fun hj => dn_up (h.l10_9 (dn_of hi hj (by decide))), l11_8 := fun hj => dn_up (h.l11_8 (dn_of hi hj (by decide))), l11_10 := fun hj => dn_up (h.l11_10 (dn_of hi hj (by decide))), l12_11 := fun hj => dn_up (h.l12_11 (dn_of hi hj (by decide))), l14_13 := fun hj => dn_up (h.l14_13 (dn_of hi hj (by decide))), l15_14 := fun hj => dn_up (h.l15_14 (dn_of hi hj (by decide))), l16_12 := fun hj => dn_up (h.l16_12 (dn_of hi hj (by decide))), l16_15 := fun hj => dn_up (h.l16_15 (dn_of hi hj (by decide))), l17_16 := fun hj => dn_up (h.l17_16 (dn_of hi hj (by decide))), l19_18 := fun hj => dn_up (h.l19_18 (dn_of hi hj (by decide))), l20_19 := fun _ => dn_up (hpre _ rfl ⟨19, .data⟩ (by simp) rfl), l21_17 := fun hj => dn_up (h.l21_17 (dn_of hi hj (by decide))), l21_20 := fun hj => dn_up (h.l21_20 (dn_of hi hj (by decide))), l22_0 := fun hj => dn_up (h.l22_0 (dn_of hi hj (by decide))), l22_1 := fun hj => dn_up (h.l22_1 (dn_of hi hj (by decide))), l22_2 := fun hj => dn_up (h.l22_2 (dn_of hi hj (by decide))), l22_3 := fun hj => dn_up (h.l22_3 (dn_of hi hj (by decide))), l22_4 := fun hj => dn_up (h.l22_4 (dn_of hi hj (by decide))), l22_5 := fun hj => dn_up (h.l22_5 (dn_of hi hj (by decide))), l22_6 := fun hj => dn_up (h.l22_6 (dn_of hi hj (by decide))), l22_7 := fun hj => dn_up (h.l22_7 (dn_of hi hj (by decide))), l22_8 := fun hj => dn_up (h.l22_8 (dn_of hi hj (by decide))), l22_9 := fun hj => dn_up (h.l22_9 (dn_of hi hj (by decide))), l22_10 := fun hj => dn_up (h.l22_10 (dn_of hi hj (by decide))), l22_11 := fun hj => dn_up (h.l22_11 (dn_of hi hj (by decide))), l22_12 := fun hj => dn_up (h.l22_12 (dn_of hi hj (by decide))), l22_13 := fun hj => dn_up (h.l22_13 (dn_of hi hj (by decide))), l22_14 := fun hj => dn_up (h.l22_14 (dn_of hi hj (by decide))), l22_15 := fun hj => dn_up (h.l22_15 (dn_of hi hj (by decide))), l22_16 := fun hj => dn_up (h.l22_16 (dn_of hi hj (by decide))), l22_17 := fun hj => dn_up (h.l22_17 (dn_of hi hj (by decide))), l22_18 := fun hj => dn_up (h.l22_18 (dn_of hi hj (by decide))), l22_19 := fun hj => dn_up (h.l22_19 (dn_of hi hj (by decide))), l22_20 := fun hj => dn_up (h.l22_20 (dn_of hi hj (by decide))), l22_21 := fun hj => dn_up (h.l22_21 (dn_of hi hj (by decide))), p0 := rp hi h.p0, p1 := rp hi h.p1, p2 := rp hi h.p2, p3 := rp hi h.p3, p4 := rp hi h.p4, p6 := rp hi h.p6, p7 := rp hi h.p7, p8 := rp hi h.p8, p9 := rp hi h.p9, p10 := rp hi h.p10, p11 := rp hi h.p11, p12 := rp hi h.p12, p13 := rp hi h.p13, p14 := rp hi h.p14, p15 := rp hi h.p15, p16 := rp hi h.p16, p17 := rp hi h.p17, p18 := rp hi h.p18, p19 := rp hi h.p19, p20 := fun _ => set_same (by have := h.siz; omega), p21 := rp hi h.p21 }⟩
                · have hi : 21 < d.size := by omega
                  have e17 := h.p17 (hpre _ rfl ⟨17, .data⟩ (by simp) rfl)
                  have e20 := h.p20 (hpre _ rfl ⟨20, .data⟩ (by simp) rfl)
                  have hnd' := not_dn hi hnd
                  have hz : ¬ 9223372036854775807 < 3 + x.text.size + 1 + il.size + 1 + ih.size := by omega
                  refine wpOp_plain rfl rfl ?_
                  go_simp
                  exact ⟨_, rfl, { bel := h.bel, siz := (by simpa using h.siz), kp := rk h.kp, k5 := rs h.k5, k9 := rs h.k9, oth := fun hk => h.oth (fun q => hk (dn_up q)), sl := fun hj hk => by obtain ⟨g, e1, e2, e3⟩ := h.sl (dn_of hi hj (by decide)) (fun q => hk (dn_up q)); exact ⟨g, (set_other (by decide)).trans e1, e2, e3⟩, res := fun hj => absurd (h.l22_21 (dn_of hi hj (by decide))) hnd', l1_0 := fun hj => dn_up (h.l1_0 (dn_of hi hj (by decide))), l2_1 := fun hj => dn_up (h.l2_1 (dn_of hi hj (by decide))), l3_2 := fun hj => dn_up (h.l3_2 (dn_of hi hj (by decide))), l4_3 := fun hj => dn_up (h.l4_3 (dn_of hi hj (by decide))), l5_4 := fun hj => dn_up (h.l5_4 (dn_of hi hj (by decide))), l6_5 := fun hj => dn_up (h.l6_5 (dn_of hi hj (by decide))), l7_6 := fun hj => dn_up (h.l7_6 (dn_of hi hj (by decide))), l8_7 := fun hj => dn_up (h.l8_7 (dn_of hi hj (by decide))), l10_9 := fun hj => dn_up (h.l10_9 (dn_of hi hj (by decide))), l11_8 := fun hj => dn_up (h.l11_8 (dn_of hi hj (by decide))), l11_10 := fun hj => dn_up (h.l11_10 (dn_of hi hj (by decide))), l12_11 := fun hj => dn_up (h.l12_11 (dn_of hi hj (by decide))), l14_13 := fun hj => dn_up (h.l14_13 (dn_of hi hj (by decide))), l15_14 := fun hj => dn_up (h.l15_14 (dn_of hi hj (by decide))), l16_12 := fun hj => dn_up (h.l16_12 (dn_of hi hj (by decide))), l16_15 := fun hj => dn_up (h.l16_15 (dn_of hi hj (by decide))), l17_16 := fun hj => dn_up (h.l17_16 (dn_of hi hj (by decide))), l19_18 := fun hj => dn_up (h.l19_18 (dn_of hi hj (by decide))), l20_19 := fun hj => dn_up (h.l20_19 (dn_of hi hj (by decide))), l21_17 := fun _ => dn_up (hpre _ rfl ⟨17, .data⟩ (by simp) rfl), l21_20 := fun _ => dn_up (hpre _ rfl ⟨20, .data⟩ (by simp) rfl), l22_0 := fun hj => dn_up (h.l22_0 (dn_of hi hj (by decide))), l22_1 := fun hj => dn_up (h.l22_1 (dn_of hi hj (by decide))), l22_2 := fun hj => dn_up (h.l22_2 (dn_of hi hj (by decide))), l22_3 := fun hj => dn_up (h.l22_3 (dn_of hi hj (by decide))), l22_4 := fun hj => dn_up (h.l22_4 (dn_of hi hj (by decide))), l22_5 := fun hj => dn_up (h.l22_5 (dn_of hi hj (by decide))), l22_6 := fun hj => dn_up (h.l22_6 (dn_of hi hj (by decide))), l22_7 := fun hj => dn_up (h.l22_7 (dn_of hi hj (by decide))), l22_8 := fun hj => dn_up (h.l22_8 (dn_of hi hj (by decide))), l22_9 := fun hj => dn_up (h.l22_9 (dn_of hi hj (by decide))), l22_10 := fun hj => dn_up (h.l22_10 (dn_of hi hj (by decide))), l22_11 := fun hj => dn_up (h.l22_11 (dn_of hi hj (by decide))), l22_12 := fun hj => dn_up (h.l22_12 (dn_of hi hj (by decide))), l22_13 := fun hj => dn_up (h.l22_13 (dn_of hi hj (by decide))), l22_14 := fun hj => dn_up (h.l22_14 (dn_of hi hj (by decide))), l22_15 := fun hj => dn_up (h.l22_15 (dn_of hi hj (by decide))), l22_16 := fun hj => dn_up (h.l22_16 (dn_of hi hj (by decide))), l22_17 := fun hj => dn_up (h.l22_17 (dn_of hi hj (by decide))), l22_18 := fun hj => dn_up (h.l22_18 (dn_of hi hj (by decide))), l22_19 := fun hj => dn_up (h.l22_19 (dn_of hi hj (by decide))), l22_20 := fun hj => dn_up (h.l22_20 (dn_of hi hj (by decide))), l22_21 := fun hj => dn_up (h.l22_21 (dn_of hi hj (by decide))), p0 := rp hi h.p0, p1 := rp hi h.p1, p2 := rp hi h.p2, p3 := rp hi h.p3, p4 := rp hi h.p4, p6 := rp hi h.p6, p7 := rp hi h.p7, p8 := rp hi h.p8, p9 := rp hi h.p9, p10 := rp hi h.p10, p11 := rp hi h.p11, p12 := rp hi h.p12, p13 := rp hi h.p13, p14 := rp hi h.p14, p15 := rp hi h.p15, p16 := rp hi h.p16, p17 := rp hi h.p17, p18 := rp hi h.p18, p19 := rp hi h.p19, p20 := rp hi h.p20, p21 := fun _ => set_same (by have := h.siz; omega) }⟩
                · have hi : 22 < d.size := by omega
                  have hnd' := not_dn hi hnd
                  have d21 : dn d 21 := hpre _ rfl ⟨21, .data⟩ (by simp) rfl
                  have d17 : dn d 17 := h.l21_17 d21
                  have d20 : dn d 20 := h.l21_20 d21
                  have d16 : dn d 16 := h.l17_16 d17
                  have d19 : dn d 19 := h.l20_19 d20
                  have d12 : dn d 12 := h.l16_12 d16
                  have d15 : dn d 15 := h.l16_15 d16
                  have d18 : dn d 18 := h.l19_18 d19
                  have d11 : dn d 11 := h.l12_11 d12
                  have d14 : dn d 14 := h.l15_14 d15
                  have d8 : dn d 8 := h.l11_8 d11
                  have d10 : dn d 10 := h.l11_10 d11
                  have d13 : dn d 13 := h.l14_13 d14
                  have d7 : dn d 7 := h.l8_7 d8
                  have d9 : dn d 9 := h.l10_9 d10
                  have d6 : dn d 6 := h.l7_6 d7
                  have d5 : dn d 5 := h.l6_5 d6
                  have d4 : dn d 4 := h.l5_4 d5
                  have d3 : dn d 3 := h.l4_3 d4
                  have d2 : dn d 2 := h.l3_2 d3
                  have d1 : dn d 1 := h.l2_1 d2
                  have d0 : dn d 0 := h.l1_0 d1
                  have e21 := h.p21 d21
                  have q5 := h.k5
                  have hot := h.oth hnd'
                  have hos := hot.size
                  refine wpOp_plain rfl rfl ?_
                  go_simp
                  refine (gWrite_any bb bb _ _ wc (isB_below HIB.out hot) (by have := HSZ.out; omega) (by omega)).mono ?_
                  rintro e1 w1 ⟨rfl, hib, hb, hsd⟩
                  exact ⟨_, rfl, { bel := (hot.mono (by omega)).trans hb, siz := (by simpa using h.siz), kp := rk h.kp, k5 := rs h.k5, k9 := rs h.k9, oth := fun hk => absurd (dn_self hi) hk, sl := fun _ hk => absurd (dn_self hi) hk, res := fun _ => ⟨hib, (Side.of hot).trans hsd⟩, l1_0 := fun hj => dn_up (h.l1_0 (dn_of hi hj (by decide))), l2_1 := fun hj => dn_up (h.l2_1 (dn_of hi hj (by decide))), l3_2 := fun hj => dn_up (h.l3_2 (dn_of hi hj (by decide))), l4_3 := fun hj => dn_up (h.l4_3 (dn_of hi hj (by decide))), l5_4 := fun hj => dn_up (h.l5_4 (dn_of hi hj (by decide))), l6_5 := fun hj => dn_up (h.l6_5 (dn_of hi hj (by decide))), l7_6 := fun hj => dn_up (h.l7_6 (dn_of hi hj (by decide))), l8_7 := fun hj => dn_up (h.l8_7 (dn_of hi hj (by decide))), l10_9 := fun hj => dn_up (h.l10_9 (dn_of hi hj (by decide))), l11_8 := fun hj => dn_up (h.l11_8 (dn_of hi hj (by decide))), l11_10 := fun hj => dn_up (h.l11_10 (dn_of hi hj (by decide))), l12_11 := fun hj => dn_up (h.l12_11 (dn_of hi hj (by decide))), l14_13 := fun hj => dn_up (h.l14_13 (dn_of hi hj (by decide))), l15_14 := fun hj => dn_up (h.l15_14 (dn_of hi hj (by decide))), l16_12 := fun hj => dn_up (h.l16_12 (dn_of hi hj (by decide))), l16_15 := fun hj => dn_up (h.l16_15 (dn_of hi hj (by decide))), l17_16 := fun hj => dn_up (h.l17_16 (dn_of hi hj (by decide))), l19_18 := fun hj => dn_up (h.l19_18 (dn_of hi hj (by decide))), l20_19 := fun hj => dn_up (h.l20_19 (dn_of hi hj (by decide))), l21_17 := fun hj => dn_up (h.l21_17 (dn_of hi hj (by decide))), l21_20 := fun hj => dn_up (h.l21_20 (dn_of hi hj (by decide))), l22_0 := fun _ => dn_up d0, l22_1 := fun _ => dn_up d1, l22_2 := fun _ => dn_up d2, l22_3 := fun _ => dn_up d3, l22_4 := fun _ => dn_up d4, l22_5 := fun _ => dn_up d5, l22_6 := fun _ => dn_up d6, l22_7 := fun _ => dn_up d7, l22_8 := fun _ => dn_up d8, l22_9 := fun _ => dn_up d9, l22_10 := fun _ => dn_up d10, l22_11 := fun _ => dn_up d11, l22_12 := fun _ => dn_up d12, l22_13 := fun _ => dn_up d13, l22_14 := fun _ => dn_up d14, l22_15 := fun _ => dn_up d15, l22_16 := fun _ => dn_up d16, l22_17 := fun _ => dn_up d17, l22_18 := fun _ => dn_up d18, l22_19 := fun _ => dn_up d19, l22_20 := fun _ => dn_up d20, l22_21 := fun _ => dn_up d21, p0 := rp hi h.p0, p1 := rp hi h.p1, p2 := rp hi h.p2, p3 := rp hi h.p3, p4 := rp hi h.p4, p6 := rp hi h.p6, p7 := rp hi h.p7, p8 := rp hi h.p8, p9 := rp hi h.p9, p10 := rp hi h.p10, p11 := rp hi h.p11, p12 := rp hi h.p12, p13 := rp hi h.p13, p14 := rp hi h.p14, p15 := rp hi h.p15, p16 := rp hi h.p16, p17 := rp hi h.p17, p18 := rp hi h.p18, p19 := rp hi h.p19, p20 := rp hi h.p20, p21 := rp hi h.p21 }⟩
              case gendv =>
                intro d a wc hd hI hall
                obtain ⟨t, rfl, h⟩ := hI
                have hdn : ∀ j, j < 23 → dn d j := fun j hj => dn_all hd hall hj
                have hd : ∀ j, (_ : j < 23 := by decide) → dn d j := fun j hj => hdn j hj
                obtain ⟨t56, x56⟩ : ∃ v, t[56]? = some v := ⟨_, Array.getElem?_eq_getElem (by have := h.siz; omega)⟩
                obtain ⟨t73, x73⟩ : ∃ v, t[73]? = some v := ⟨_, Array.getElem?_eq_getElem (by have := h.siz; omega)⟩
                have hfe := frame_eq [(51, _), (52, _), (53, _), (54, _), (55, _), (56, _), (57, _), (58, _), (59, _), (60, _), (61, _), (62, _), (63, _), (64, _), (65, _), (66, _), (67, _), (68, _), (69, _), (70, _), (71, _), (72, _), (73, _)] (h.siz.trans rfl) h.kp rfl ⟨h.p0 (hd 0), h.p1 (hd 1), h.p2 (hd 2), h.p3 (hd 3), h.p4 (hd 4), x56, h.p6 (hd 6), h.p7 (hd 7), h.p8 (hd 8), h.p9 (hd 9), h.p10 (hd 10), h.p11 (hd 11), h.p12 (hd 12), h.p13 (hd 13), h.p14 (hd 14), h.p15 (hd 15), h.p16 (hd 16), h.p17 (hd 17), h.p18 (hd 18), h.p19 (hd 19), h.p20 (hd 20), h.p21 (hd 21), x73, trivial⟩
                simp only [List.foldl_cons, List.foldl_nil, List.setIfInBounds_toArray, List.set_cons_succ, List.set_cons_zero] at hfe
                have hbc := h.bel
                subst hfe
                have hres := h.res (hd 22)
                clear h hdn hall hd
                have hres' := hres.1
                have hside := hres.2
                have hbc' := hbc
                clear hbc hres
                rename World => w15
                have HRV : Hid (Lib.IsBuilder 106 5 bb bb (Lib.byteCells (l0 ++ Sg.lineP s (j + 1))) w15) := Lib.hid (by
                  rw [HVP.out, HL1.out, List.append_assoc, ← Sg.lineP_next HXJ.out] at hres'
                  exact hres')
                have HBX := Lib.hid (HBC.out.trans ((HBV.out.mono (by omega)).trans hbc'))
                clear hres' hside hbc' hil hih hxz HIL HIH HSZ HIB
                go_wp2_with fail
                go_roundg (s.values.length - (j + 1))
                case measure => omega
                case rel => exact ⟨j + 1, by omega, rfl, by go_num, HRV.out, HBX.out⟩
            · have hnI : ¬ (j : Int) < (s.values.length : Int) := by omega
              have HLJ : Hid (Sg.lineP s j = Sg.lineJ s) := Lib.hid (Sg.lineP_all (by omega))
              have hpl := Sg.lineP_len HSF.out j
              have hwj : bb ≤ wj.heap.size := by omega
              have HBJ2 := HBJ
              have HWR20 := Lib.hid (gWrite_any bb bb (l0 ++ Sg.lineP s j) ⟨#[10]⟩ wj HIBJ.out (by rw [List.length_append]; show _ + 1 ≤ _; omega) hwj)
              clear hpl
              go_wp2_with fail
              refine HWR20.out.mono ?_
              rintro e w20 ⟨rfl, hib20, hb20, -⟩
              have HI20 : Hid (Lib.IsBuilder 106 5 bb bb (Lib.byteCells (Sg.fmtP l (k + 1))) w20) := Lib.hid (by
                rw [Sg.fmtP_next HS.out, ← HLN.out, ← HLJ.out, ← List.append_assoc]
                exact hib20)
              have HB20 := Lib.hid (HBJ.out.trans hb20)
              clear hib20 hb20
              go_wp2_with fail
              go_roundg (l.signs.length - (k + 1))
              case measure => omega
              case rel => exact ⟨k + 1, by omega, rfl, by go_num, HI20.out, HB20.out⟩
    · have hnI : ¬ (k : Int) < (l.signs.length : Int) := by omega
      have hke : k = l.signs.length := by omega
      have HALL : Hid (Lib.IsBuilder 106 5 bb bb (Lib.byteCells res) wr) := Lib.hid (by
        rw [HN.out, ← Sg.fmtP_all (l := l) (k := k) (by omega)]
        exact HIBR.out)
      clear hke
      have hbwr : bb ≤ wr.heap.size := by omega
      have HST := Lib.hid (Tryz.Builder_String_any bb bb res wr HALL.out hbwr)
      go_wp2_with fail
      refine HST.out.mono ?_
      rintro e9 w9 ⟨rfl, hb9⟩
      have HB9 := Lib.hid (HWR.out.trans (hb9.mono (Nat.le_of_lt hwb)))
      clear hb9
      go_wp2_with fail
      go_ret2
      exact ⟨⟨res.toArray⟩, rfl, by simp, HB9.out⟩
end Go.Proofs.YtkmimjngmfdpmaaGreatDoor
