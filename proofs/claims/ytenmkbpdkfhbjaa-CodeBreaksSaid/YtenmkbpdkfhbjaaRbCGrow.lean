/- code.grow: items of nodes. -/
import Derived.Test.YtenmkbpdkfhbjaaRbCdGrowP
import Derived.Test.YtenmkbpdkfhbjaaRbTxBox
import Derived.Test.YtenmkbpdkfhbjaaRbCdSize
import Derived.Lib.SmallJoins
namespace Go.Proofs.Ytenmkbpdkfhbjaa
open Go Go.RowKit

def RetGr (dep : Int) (l : List Tx.Node) (B : Nat) (w : World) (e : Ending) (w' : World) : Prop :=
  ∃ A1 c1 A2 c2, e = .returned (.tuple #[.slice A1 (Cd.growT dep l).1.length c1, .slice A2 (Cd.growT dep l).2.length c2]) ∧ Below w.heap.size w w' ∧ OwnG KG 76 w' w.heap.size (.slice A1 (Cd.growT dep l).1.length c1) (Cd.growT dep l).1 ∧ RdN w' B (.slice A2 (Cd.growT dep l).2.length c2) (Cd.growT dep l).2
def GrowSays (N : Nat) : Prop := ∀ (l : List Tx.Node) (dep : Nat) (A : Option Addr) (c : Nat) (w : World) (B : Nat), l.length < N → RdN w B (.slice A l.length c) l → B ≤ w.heap.size → dep + l.length ≤ 1000000 → Calls Try.prog 26 #[.slice A l.length c, .int .i64 dep] w (RetGr dep l B w)
set_option maxRecDepth 100000 in
set_option maxHeartbeats 16000000 in
theorem grow_step (N : Nat) (ih : ∀ M, N = M + 1 → GrowSays M) : GrowSays N := by
  intro l dep A c w B hN hr hB hd
  have IH := Lib.hid ih
  have HR := Lib.hid hr
  have HB := Lib.hid hB
  have HD := Lib.hid hd
  have HN := Lib.hid hN
  have hd9 : (dep : Int) ≤ 1000000 := by omega
  clear ih hr hB hd hN
  go_enter Try.func26, Try.ntmps26
  go_wp2_with fail
  go_loopg [0, 4] l.length (fun g nd out wr => ∃ (l' : List Tx.Node) (xs : List Cd.Item) (A' : Option Addr) (c' : Nat), g = l'.length ∧ nd = .slice A' l'.length c' ∧ Below w.heap.size w wr ∧ OwnG KG 76 wr w.heap.size out xs ∧ RdN wr B (.slice A' l'.length c') l' ∧ (xs ++ (Cd.growT dep l').1, (Cd.growT dep l').2) = Cd.growT dep l ∧ xs.length + l'.length ≤ l.length)
  case atStart => exact ⟨l, [], A, c, rfl, rfl, Below.refl _ _, OwnG.nil _ _ _, HR.out, rfl, by simp⟩
  case round =>
    obtain ⟨l', xs, A', c', rfl, rfl, hbr, hown, hrd, hsplit, hlen⟩ := hrel
    obtain ⟨Ao, co, rfl⟩ := hown.form
    have HBR := Lib.hid hbr
    have HO := Lib.hid hown
    have HRD := Lib.hid hrd
    have HSP := Lib.hid hsplit
    have hwr : w.heap.size ≤ wr.heap.size := hbr.size
    have HL := Lib.hid hlen
    clear hbr hown hrd hsplit hlen
    cases l' with
    | nil =>
      have HE : Hid (Cd.growT dep l = (xs, [])) := Lib.hid (by rw [← HSP.out]; simp [Cd.growT, Cd.grow_nil])
      simp only [List.length_nil]
      go_wp2_with fail
      refine bodyPost_ret (results_tmp2 rfl _ _ _) rfl ?_
      unfold RetGr
      rw [HE.out]
      exact ⟨Ao, co, A', c', rfl, HBR.out, HO.out, HRD.out⟩
    | cons n l2 =>
      obtain ⟨b, off, hA, hb, hcell⟩ := HRD.out.eight (by simp)
      subst hA
      obtain ⟨f0, f1, f2, f3, f4, f5, f6, f7⟩ := hcell 0 (by simp)
      simp only [Nat.zero_mul, Nat.add_zero, show Tx.nd (n :: l2) 0 = n from rfl] at f0 f1 f2 f3 f4 f5 f6 f7
      obtain ⟨M, hM⟩ : ∃ M, M = (n :: l2).length := ⟨_, rfl⟩
      have hM1 : M = l2.length + 1 := by rw [hM]; rfl
      have hMp : (0 : Int) < (M : Int) := by omega
      have HMM := Lib.hid hM
      have HM1 := Lib.hid hM1
      rw [← hM]
      clear hcell hM hM1
      by_cases hdd : (dep : Int) ≤ n.depth
      · have d1 : decide ((dep : Int) ≤ n.depth) = true := decide_eq_true hdd
        have HDD := Lib.hid hdd
        clear hdd
        go_upto_region 3 with fail
        obtain ⟨W4, hW4⟩ : ∃ X, X = wr.alloc (.cells #[.int .i64 n.kind, .int .i64 n.depth, .int .i64 n.sign, .int .i64 n.turn, .bool n.mirror, .int .i64 n.state, .int .i64 n.lo, .int .i64 n.hi, .string ⟨#[]⟩, .int .i64 0, .slice none 0 0] 76) := ⟨_, rfl⟩
        rw [← hW4]
        obtain ⟨X, hX⟩ : ∃ X, X = wr.heap.size := ⟨_, rfl⟩
        rw [← hX]
        have hb4 : Below X wr W4 := by rw [hW4, hX]; exact (Below.refl _ _).alloc (Nat.le_refl _) _
        have hz4 : W4.heap[X]? = some (.cells #[.int .i64 n.kind, .int .i64 n.depth, .int .i64 n.sign, .int .i64 n.turn, .bool n.mirror, .int .i64 n.state, .int .i64 n.lo, .int .i64 n.hi, .string ⟨#[]⟩, .int .i64 0, .slice none 0 0] 76 (0, 0)) := by rw [hW4, hX]; exact heap_alloc_new _ _
        have HB4 := Lib.hid hb4
        have HZ4 := Lib.hid hz4
        have HX := Lib.hid hX
        obtain ⟨b', off', hA', hb', htl⟩ := HRD.out.tail
        cases hA'
        have hcc : M ≤ c' ∧ c' ≤ 9223372036854775807 := by
          obtain ⟨A9, c9, hv, h1, h2, -⟩ := HRD.out
          cases hv
          exact ⟨by rw [HMM.out]; exact h1, h2⟩
        have hm1 : M - 1 = l2.length := by have := HM1.out; omega
        have HTL := Lib.hid htl
        have hM1I : (1 : Int) ≤ (M : Int) := by omega
        have hMcI : (M : Int) ≤ (c' : Int) := by omega
        clear hW4 hb4 hz4 hX htl hb' f0 f1 f2 f3 f4 f5 f6 f7
        have hX4 : X < W4.heap.size := lt_of_some HZ4.out
        have HBX : Hid (B ≤ W4.heap.size) := Lib.hid (Nat.le_trans HB.out (Nat.le_trans hwr HB4.out.size))
        obtain ⟨ks, hks⟩ : ∃ ks, ks = (Cd.growT ((dep : Int) + 1) l2).1 := ⟨_, rfl⟩
        obtain ⟨rs, hrs⟩ : ∃ rs, rs = (Cd.growT ((dep : Int) + 1) l2).2 := ⟨_, rfl⟩
        have hrl : rs.length ≤ l2.length := by rw [hrs]; exact Cd.growT_len _ _
        have HG : Hid (Cd.growT dep (n :: l2) = (Cd.Item.mk n [] 0 ks :: (Cd.growT dep rs).1, (Cd.growT dep rs).2)) := Lib.hid (by rw [Cd.growT_cons HDD.out, hks, hrs])
        have HCALL : Hid (∀ (off2 c2 : Nat), RdN wr B (.slice (some ⟨b, off2, none⟩) l2.length c2) l2 → Calls Try.prog 26 #[.slice (some ⟨b, off2, none⟩) l2.length c2, .int .i64 ((dep : Int) + 1)] W4 (fun e w' => ∃ A1 c1 A2 c2, e = .returned (.tuple #[.slice A1 ks.length c1, .slice A2 rs.length c2]) ∧ Below W4.heap.size W4 w' ∧ OwnG KG 76 w' W4.heap.size (.slice A1 ks.length c1) ks ∧ RdN w' B (.slice A2 rs.length c2) rs)) := Lib.hid fun off2 c2 hq => by
          rw [hks, hrs]
          have h1 := HL.out
          have h2 := HN.out
          have h3 := HD.out
          rw [List.length_cons] at h1
          refine IH.out (N - 1) (by omega) l2 (dep + 1) _ c2 W4 B (by omega) (hq.below (HB4.out.mono ?_)) HBX.out (by omega)
          have := HX.out
          have := HB.out
          omega
        clear hks hrs
        by_cases h1c : c' = 1
        · have HTX : Hid (RdN wr B (.slice (some ⟨b, off, none⟩) l2.length 0) l2) := Lib.hid (by
            have h0 : l2.length = 0 := by omega
            have h00 : l2 = [] := List.length_eq_zero_iff.1 h0
            rw [h00]
            exact ⟨_, 0, rfl, Nat.le_refl _, by omega, fun hh => absurd hh (by simp)⟩)
          go_wp2_with fail
          refine (HCALL.out _ _ HTX.out).mono ?_
          rintro e w5 ⟨A1, c1, A2, c2, rfl, hb5, ho5, hr5⟩
          have HB5 := Lib.hid hb5
          have HO5 := Lib.hid ho5
          have HR5 := Lib.hid hr5
          have hx5 := (hb5.block X hX4).trans HZ4.out
          have hs5 := hb5.size
          obtain ⟨z0, z1, z2, z3, z4, z5, z6, z7, z8, z9, z10⟩ := box_cells hx5
          have y10 := (box_free hx5).2.2.2.2.2.2.2.2.2.2
          clear hb5 ho5 hr5 HCALL HTX
          go_upto_region 4 with fail
          obtain ⟨W6, hW6⟩ : ∃ Y, Y = w5.setCell ⟨X, 10, none⟩ (.slice A1 ks.length c1) := ⟨_, rfl⟩
          rw [← hW6]
          have hz6 : W6.heap[X]? = some (.cells #[.int .i64 n.kind, .int .i64 n.depth, .int .i64 n.sign, .int .i64 n.turn, .bool n.mirror, .int .i64 n.state, .int .i64 n.lo, .int .i64 n.hi, .string ⟨#[]⟩, .int .i64 0, .slice A1 ks.length c1] 76 (0, 0)) := by rw [hW6]; exact Go.Joins.block_setCell (i := 10) hx5 _
          have hs6 : W6.heap.size = w5.heap.size := by rw [hW6, size_setT]
          have hXw := HX.out
          have hb6 : Below wr.heap.size wr W6 := by
            rw [hW6]
            exact ((HB4.out.mono (by omega)).trans (HB5.out.mono (by omega))).setCell (p := ⟨X, 10, none⟩) (by show wr.heap.size ≤ X; omega) _
          have h56 : ∀ q, q ≠ X → W6.heap[q]? = w5.heap[q]? := fun q hq => by rw [hW6]; exact Below.heap_setCell _ ⟨X, 10, none⟩ _ _ hq
          clear z0 z1 z2 z3 z4 z5 z6 z7 z8 z9 z10 y10 hx5
          obtain ⟨z0, z1, z2, z3, z4, z5, z6, z7, z8, z9, z10⟩ := box_cells hz6
          have HO6 := Lib.hid (HO.out.kept hb6)
          have HR6 : Hid (RdN W6 B (.slice A2 rs.length c2) rs) := Lib.hid (HR5.out.keep fun p hp => by rw [World.cell?_of_block (h56 p.block (by have := HB.out; omega))])
          obtain ⟨W7, hW7⟩ : ∃ Y, Y = W6.alloc (.cells #[.int .i64 n.kind, .int .i64 n.depth, .int .i64 n.sign, .int .i64 n.turn, .bool n.mirror, .int .i64 n.state, .int .i64 n.lo, .int .i64 n.hi, .string ⟨#[]⟩, .int .i64 0, .slice A1 ks.length c1] 76) := ⟨_, rfl⟩
          have h67 : Below W6.heap.size W6 W7 := by rw [hW7]; exact (Below.refl _ _).alloc (Nat.le_refl _) _
          have hs7 : W7.heap.size = W6.heap.size + 1 := by rw [hW7]; simp
          have HO7 := Lib.hid (HO6.out.kept h67)
          have HNEW : Hid (W7.heap[W6.heap.size]? = some (.cells #[.int .i64 n.kind, .int .i64 n.depth, .int .i64 n.sign, .int .i64 n.turn, .bool n.mirror, .int .i64 n.state, .int .i64 n.lo, .int .i64 n.hi, .string ⟨#[]⟩, .int .i64 0, .slice A1 ks.length c1] 76 (0, 0))) := Lib.hid (by rw [hW7]; exact heap_alloc_new _ _)
          have HONE : Hid (∀ u ∈ encN n ++ [Value.string (Cd.bs []), .int .i64 0, .slice A1 ks.length c1], u.oneCell' = true) := Lib.hid fun u hu => by (simp [encN, encNz] at hu; rcases hu with rfl | rfl | rfl | rfl | rfl | rfl | rfl | rfl | rfl | rfl | rfl <;> rfl)
          have HRD7 : Hid (KG.rd W7 (fun q => q < W7.heap.size ∧ (Value.slice Ao xs.length co).ownBlock ≠ some q ∧ w.heap.size ≤ q) (encN n ++ [Value.string (Cd.bs []), .int .i64 0, .slice A1 ks.length c1]) (Cd.Item.mk n [] 0 ks)) := Lib.hid (kg_mk (x := Cd.Item.mk n [] 0 ks) (HO5.out.head.keep fun q hq => ⟨⟨by omega, fun e => by have := (HO.out.lt q e).2; omega, by omega⟩, by rw [h67.block q (by omega), h56 q (by omega)]⟩))
          have HFEW : Hid (xs.length ≤ 2000000) := Lib.hid (by have := HL.out; have := HD.out; omega)
          have HBS : Hid (w.heap.size ≤ W7.heap.size) := Lib.hid (by omega)
          have HB67 := Lib.hid (hb6.trans (h67.mono (by omega)))
          have HR7 := Lib.hid (HR6.out.below (h67.mono (by have := HB.out; omega)))
          have HW7 := Lib.hid hW7
          rw [hW7] at HO7 HNEW HRD7 HBS
          have HS6 := Lib.hid hs6
          clear hW6 hz6 hb6 h56 h67 hW7 hs7 hXw hs6
          go_wp2_with (at_builtin; go_must (refine wpList_append_itemG rfl (.tmp 31) (.tmp 33) rfl w.heap.size (.slice Ao xs.length co) xs (Cd.Item.mk n [] 0 ks) rfl HO7.out W6.heap.size 1 (encN n ++ [Value.string (Cd.bs []), .int .i64 0, .slice A1 ks.length c1]) rfl (by decide) HNEW.out HONE.out HRD7.out HFEW.out HBS.out ?_))
          intro v8 w8 hown8 hg8
          have HB8 : Hid (Below w.heap.size w w8) := Lib.hid ((HBR.out.trans (by rw [← HW7.out]; exact HB67.out.mono hwr)).grown hg8 HBS.out fun q hq => (HO7.out.lt q hq).1)
          have HO8 := Lib.hid hown8
          have HR8 : Hid (RdN w8 B (.slice A2 rs.length c2) rs) := Lib.hid (HR7.out.keep fun p hp => World.cell?_of_block (by rw [HW7.out]; exact hg8.block p.block (by have := HBS.out; have := HB.out; omega) (fun e => by have := (HO7.out.lt p.block e.symm).1; have := HB.out; omega)))
          clear hown8 hg8
          go_wp2_with fail
          go_roundg rs.length
          case measure => have := HM1.out; have := HMM.out; rw [List.length_cons]; omega
          case rel =>
            refine ⟨rs, xs ++ [Cd.Item.mk n [] 0 ks], A2, c2, rfl, rfl, HB8.out, HO8.out, HR8.out, ?_, ?_⟩
            · rw [← HSP.out, HG.out]
              simp
            · have := HL.out
              rw [List.length_cons] at this
              rw [List.length_append, List.length_singleton]
              omega
        · have HTX := HTL
          go_wp2_with fail
          refine (HCALL.out _ _ HTX.out).mono ?_
          rintro e w5 ⟨A1, c1, A2, c2, rfl, hb5, ho5, hr5⟩
          have HB5 := Lib.hid hb5
          have HO5 := Lib.hid ho5
          have HR5 := Lib.hid hr5
          have hx5 := (hb5.block X hX4).trans HZ4.out
          have hs5 := hb5.size
          obtain ⟨z0, z1, z2, z3, z4, z5, z6, z7, z8, z9, z10⟩ := box_cells hx5
          have y10 := (box_free hx5).2.2.2.2.2.2.2.2.2.2
          clear hb5 ho5 hr5 HCALL HTX
          go_upto_region 4 with fail
          obtain ⟨W6, hW6⟩ : ∃ Y, Y = w5.setCell ⟨X, 10, none⟩ (.slice A1 ks.length c1) := ⟨_, rfl⟩
          rw [← hW6]
          have hz6 : W6.heap[X]? = some (.cells #[.int .i64 n.kind, .int .i64 n.depth, .int .i64 n.sign, .int .i64 n.turn, .bool n.mirror, .int .i64 n.state, .int .i64 n.lo, .int .i64 n.hi, .string ⟨#[]⟩, .int .i64 0, .slice A1 ks.length c1] 76 (0, 0)) := by rw [hW6]; exact Go.Joins.block_setCell (i := 10) hx5 _
          have hs6 : W6.heap.size = w5.heap.size := by rw [hW6, size_setT]
          have hXw := HX.out
          have hb6 : Below wr.heap.size wr W6 := by
            rw [hW6]
            exact ((HB4.out.mono (by omega)).trans (HB5.out.mono (by omega))).setCell (p := ⟨X, 10, none⟩) (by show wr.heap.size ≤ X; omega) _
          have h56 : ∀ q, q ≠ X → W6.heap[q]? = w5.heap[q]? := fun q hq => by rw [hW6]; exact Below.heap_setCell _ ⟨X, 10, none⟩ _ _ hq
          clear z0 z1 z2 z3 z4 z5 z6 z7 z8 z9 z10 y10 hx5
          obtain ⟨z0, z1, z2, z3, z4, z5, z6, z7, z8, z9, z10⟩ := box_cells hz6
          have HO6 := Lib.hid (HO.out.kept hb6)
          have HR6 : Hid (RdN W6 B (.slice A2 rs.length c2) rs) := Lib.hid (HR5.out.keep fun p hp => by rw [World.cell?_of_block (h56 p.block (by have := HB.out; omega))])
          obtain ⟨W7, hW7⟩ : ∃ Y, Y = W6.alloc (.cells #[.int .i64 n.kind, .int .i64 n.depth, .int .i64 n.sign, .int .i64 n.turn, .bool n.mirror, .int .i64 n.state, .int .i64 n.lo, .int .i64 n.hi, .string ⟨#[]⟩, .int .i64 0, .slice A1 ks.length c1] 76) := ⟨_, rfl⟩
          have h67 : Below W6.heap.size W6 W7 := by rw [hW7]; exact (Below.refl _ _).alloc (Nat.le_refl _) _
          have hs7 : W7.heap.size = W6.heap.size + 1 := by rw [hW7]; simp
          have HO7 := Lib.hid (HO6.out.kept h67)
          have HNEW : Hid (W7.heap[W6.heap.size]? = some (.cells #[.int .i64 n.kind, .int .i64 n.depth, .int .i64 n.sign, .int .i64 n.turn, .bool n.mirror, .int .i64 n.state, .int .i64 n.lo, .int .i64 n.hi, .string ⟨#[]⟩, .int .i64 0, .slice A1 ks.length c1] 76 (0, 0))) := Lib.hid (by rw [hW7]; exact heap_alloc_new _ _)
          have HONE : Hid (∀ u ∈ encN n ++ [Value.string (Cd.bs []), .int .i64 0, .slice A1 ks.length c1], u.oneCell' = true) := Lib.hid fun u hu => by (simp [encN, encNz] at hu; rcases hu with rfl | rfl | rfl | rfl | rfl | rfl | rfl | rfl | rfl | rfl | rfl <;> rfl)
          have HRD7 : Hid (KG.rd W7 (fun q => q < W7.heap.size ∧ (Value.slice Ao xs.length co).ownBlock ≠ some q ∧ w.heap.size ≤ q) (encN n ++ [Value.string (Cd.bs []), .int .i64 0, .slice A1 ks.length c1]) (Cd.Item.mk n [] 0 ks)) := Lib.hid (kg_mk (x := Cd.Item.mk n [] 0 ks) (HO5.out.head.keep fun q hq => ⟨⟨by omega, fun e => by have := (HO.out.lt q e).2; omega, by omega⟩, by rw [h67.block q (by omega), h56 q (by omega)]⟩))
          have HFEW : Hid (xs.length ≤ 2000000) := Lib.hid (by have := HL.out; have := HD.out; omega)
          have HBS : Hid (w.heap.size ≤ W7.heap.size) := Lib.hid (by omega)
          have HB67 := Lib.hid (hb6.trans (h67.mono (by omega)))
          have HR7 := Lib.hid (HR6.out.below (h67.mono (by have := HB.out; omega)))
          have HW7 := Lib.hid hW7
          rw [hW7] at HO7 HNEW HRD7 HBS
          have HS6 := Lib.hid hs6
          clear hW6 hz6 hb6 h56 h67 hW7 hs7 hXw hs6
          go_wp2_with (at_builtin; go_must (refine wpList_append_itemG rfl (.tmp 31) (.tmp 33) rfl w.heap.size (.slice Ao xs.length co) xs (Cd.Item.mk n [] 0 ks) rfl HO7.out W6.heap.size 1 (encN n ++ [Value.string (Cd.bs []), .int .i64 0, .slice A1 ks.length c1]) rfl (by decide) HNEW.out HONE.out HRD7.out HFEW.out HBS.out ?_))
          intro v8 w8 hown8 hg8
          have HB8 : Hid (Below w.heap.size w w8) := Lib.hid ((HBR.out.trans (by rw [← HW7.out]; exact HB67.out.mono hwr)).grown hg8 HBS.out fun q hq => (HO7.out.lt q hq).1)
          have HO8 := Lib.hid hown8
          have HR8 : Hid (RdN w8 B (.slice A2 rs.length c2) rs) := Lib.hid (HR7.out.keep fun p hp => World.cell?_of_block (by rw [HW7.out]; exact hg8.block p.block (by have := HBS.out; have := HB.out; omega) (fun e => by have := (HO7.out.lt p.block e.symm).1; have := HB.out; omega)))
          clear hown8 hg8
          go_wp2_with fail
          go_roundg rs.length
          case measure => have := HM1.out; have := HMM.out; rw [List.length_cons]; omega
          case rel =>
            refine ⟨rs, xs ++ [Cd.Item.mk n [] 0 ks], A2, c2, rfl, rfl, HB8.out, HO8.out, HR8.out, ?_, ?_⟩
            · rw [← HSP.out, HG.out]
              simp
            · have := HL.out
              rw [List.length_cons] at this
              rw [List.length_append, List.length_singleton]
              omega
      · have d1 : decide ((dep : Int) ≤ n.depth) = false := decide_eq_false hdd
        have HE : Hid (Cd.growT dep l = (xs, n :: l2)) := Lib.hid (by
          rw [← HSP.out, Cd.growT_stop (fun m hm => by
            have : m = n := by simpa using hm.symm
            subst this
            omega)]
          simp)
        clear hdd
        go_wp2_with fail
        refine bodyPost_ret (results_tmp2 rfl _ _ _) rfl ?_
        unfold RetGr
        rw [HE.out]
        refine ⟨Ao, co, some ⟨b, off, none⟩, c', ?_, HBR.out, HO.out, HRD.out⟩
        rw [← HMM.out]
        rfl
theorem grow_any : ∀ N, GrowSays N
  | 0 => grow_step 0 fun M h => by omega
  | N + 1 => grow_step (N + 1) fun M h => by
    have : M = N := by omega
    subst this
    exact grow_any M
end Go.Proofs.Ytenmkbpdkfhbjaa
