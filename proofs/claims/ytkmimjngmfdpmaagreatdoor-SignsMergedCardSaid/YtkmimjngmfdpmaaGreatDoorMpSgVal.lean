/- signs.value. Made by gen_gval.py. -/
import Derived.Test.YtkmimjngmfdpmaaGreatDoorMpSgTwo
namespace Go.Proofs.YtkmimjngmfdpmaaGreatDoor
open Go Go.RowKit

def Sg.valZ : Option Sg.VV → Sg.Value
  | some v => v.value
  | none => ⟨0, ⟨#[]⟩, 0, 0⟩
def RetVal (q : Option Sg.VV) (w : World) (e : Ending) (w' : World) : Prop := e = .returned (.tuple #[.agg #[.int .i64 (Sg.valZ q).kind, .string (Sg.valZ q).text, .int .i64 (Sg.valZ q).lo, .int .i64 (Sg.valZ q).hi], .bool q.isSome]) ∧ Below w.heap.size w w'
theorem Sg.cut_mem {l : List UInt8} {c b : UInt8} : (b ∈ (Lib.cut l [c]).1 → b ∈ l) ∧ (b ∈ (Lib.cut l [c]).2.1 → b ∈ l) := by
  unfold Lib.cut
  split
  · exact ⟨List.mem_of_mem_take, List.mem_of_mem_drop⟩
  · exact ⟨id, fun h => by cases h⟩
theorem Sg.kindOf_cases (b : UInt8) : (b = 115 ∧ Sg.kindOf b = 1) ∨ (b ≠ 115 ∧ b = 119 ∧ Sg.kindOf b = 2) ∨ (b ≠ 115 ∧ b ≠ 119 ∧ b = 99 ∧ Sg.kindOf b = 3) ∨ (b ≠ 115 ∧ b ≠ 119 ∧ b ≠ 99 ∧ Sg.kindOf b = 0) := by
  unfold Sg.kindOf
  by_cases h1 : b = 115
  · exact .inl ⟨h1, by rw [if_pos h1]⟩
  · by_cases h2 : b = 119
    · exact .inr (.inl ⟨h1, h2, by rw [if_neg h1, if_pos h2]⟩)
    · by_cases h3 : b = 99
      · exact .inr (.inr (.inl ⟨h1, h2, h3, by rw [if_neg h1, if_neg h2, if_pos h3]⟩))
      · exact .inr (.inr (.inr ⟨h1, h2, h3, by rw [if_neg h1, if_neg h2, if_neg h3]⟩))
set_option maxRecDepth 100000 in
set_option maxHeartbeats 4000000 in
theorem gValue_any (t : ByteArray) (w : World) (hg : Glob w) (ht : t.size ≤ 1000000) (h10 : (10 : UInt8) ∉ t.data.toList) : Calls Tryz.prog 97 #[.string t] w (RetVal (Sg.valV t.data.toList) w) := by
  have HG := Lib.hid fun (W : World) (hW : Below w.heap.size w W) => hg.below hW
  have hval := Sg.val_eq t.data.toList
  have HC1 := Lib.hid fun (W : World) (hW : Below w.heap.size w W) => cut_any t 58 W (HG.out W hW) ht
  obtain ⟨hl1, hl2⟩ := Sg.cut_len t.data.toList 58
  have hm2 := (Sg.cut_mem (l := t.data.toList) (c := 58) (b := 10)).2
  have htl : t.data.toList.length = t.size := rfl
  unfold Sg.valP at hval
  obtain ⟨⟨k1, r1, f1⟩, hq1⟩ : ∃ q, q = Lib.cut t.data.toList [58] := ⟨_, rfl⟩
  rw [← hq1] at HC1 hval hl1 hl2 hm2
  simp only at HC1 hval hl1 hl2 hm2
  have HC2 := Lib.hid fun (W : World) (hW : Below w.heap.size w W) => cut_any (Sg.bs r1) 64 W (HG.out W hW) (by rw [Sg.bs_size]; omega)
  simp only [Sg.bs_list] at HC2
  obtain ⟨hl3, hl4⟩ := Sg.cut_len r1 64
  have hm3 := (Sg.cut_mem (l := r1) (c := 64) (b := 10)).1
  obtain ⟨⟨tx, sp, f2⟩, hq2⟩ : ∃ q, q = Lib.cut r1 [64] := ⟨_, rfl⟩
  rw [← hq2] at HC2 hval hl3 hl4 hm3
  simp only at HC2 hval hl3 hl4 hm3
  have HC3 := Lib.hid fun (W : World) (hW : Below w.heap.size w W) => gTwo_any (Sg.bs sp) 45 W (HG.out W hW) (by rw [Sg.bs_size]; omega)
  simp only [Sg.bs_list] at HC3
  obtain ⟨⟨a, b, is⟩, hq3⟩ : ∃ q, q = Sg.twoP sp 45 := ⟨_, rfl⟩
  rw [← hq3] at HC3 hval
  simp only at hval
  have HFR := Lib.hid fun W => gFree_any (Sg.bs tx) W (by rw [Sg.bs_size]; omega)
  simp only [Sg.bs_list] at HFR
  rw [Sg.free_loose (fun h => h10 (hm2 (hm3 h)))] at HFR
  obtain ⟨lo, hlo⟩ : ∃ lo, lo = Sg.looseB tx := ⟨_, rfl⟩
  rw [← hlo] at HFR hval
  have hk1 : (Sg.bs k1).size = k1.length := rfl
  have HV := Lib.hid hval
  obtain ⟨K, hK⟩ : ∃ K, K = Sg.bs k1 := ⟨_, rfl⟩
  obtain ⟨X, hX⟩ : ∃ X, X = Sg.bs tx := ⟨_, rfl⟩
  have HXX := Lib.hid hX
  have HKK := Lib.hid hK
  rw [← hK] at HC1 hk1
  rw [← hX] at HC2 HFR
  generalize Sg.bs r1 = R at HC1 HC2
  generalize Sg.bs sp = S at HC2 HC3
  generalize Sg.valV t.data.toList = res at HV ⊢
  clear hval hq1 hq2 hq3 hl1 hl2 hl3 hl4 hm2 hm3 h10 htl hg hlo hX hK
  have HB0 : Hid (Below w.heap.size w (w.alloc (.cells #[.int .i64 0, .string ⟨#[]⟩, .int .i64 0, .int .i64 0] 60))) := Lib.hid ((Below.refl _ _).alloc (Nat.le_refl _) _)
  go_enter Tryz.func97, Tryz.ntmps97
  go_wp2_with fail
  refine (HC1.out _ HB0.out).mono ?_
  rintro e w1 ⟨rfl, hb⟩
  have HB1 := Lib.hid (HB0.out.trans (hb.mono HB0.out.size))
  have hv1 : w1.heap[w.heap.size]? = some (.cells #[.int .i64 0, .string ⟨#[]⟩, .int .i64 0, .int .i64 0] 60 (0, 0)) := (hb.block _ (by simp)).trans (heap_alloc_new _ _)
  have HV1 := Lib.hid hv1
  have hs1 : w.heap.size < w1.heap.size := (Array.getElem?_eq_some_iff.1 hv1).1
  clear hb hv1
  go_wp2_with fail
  refine (HC2.out _ HB1.out).mono ?_
  rintro e w2 ⟨rfl, hb⟩
  have HB2 := Lib.hid (HB1.out.trans (hb.mono HB1.out.size))
  have HV2 := Lib.hid ((hb.block _ hs1).trans HV1.out)
  have hs2 := Nat.lt_of_lt_of_le hs1 hb.size
  clear hb
  go_wp2_with fail
  refine (HC3.out _ HB2.out).mono ?_
  rintro e w3 ⟨rfl, hb⟩
  have HB3 := Lib.hid (HB2.out.trans (hb.mono HB2.out.size))
  have hv3 := (hb.block _ hs2).trans HV2.out
  have hs3 := Nat.lt_of_lt_of_le hs2 hb.size
  have HV3 := Lib.hid hv3
  clear hb HC1 HC2 HC3
  have c0 : w3.cell? ⟨w.heap.size, 0, none⟩ = some (.int .i64 0) := by simp [World.cell?, hv3]
  have c1 : w3.cell? ⟨w.heap.size, 1, none⟩ = some (.string ⟨#[]⟩) := by simp [World.cell?, hv3]
  have c2 : w3.cell? ⟨w.heap.size, 2, none⟩ = some (.int .i64 0) := by simp [World.cell?, hv3]
  have c3 : w3.cell? ⟨w.heap.size, 3, none⟩ = some (.int .i64 0) := by simp [World.cell?, hv3]
  have z0 : w3.frozen? ⟨w.heap.size, 0, none⟩ = false := by simp [World.frozen?, hv3]
  have z1 : w3.frozen? ⟨w.heap.size, 1, none⟩ = false := by simp [World.frozen?, hv3]
  have z2 : w3.frozen? ⟨w.heap.size, 2, none⟩ = false := by simp [World.frozen?, hv3]
  have z3 : w3.frozen? ⟨w.heap.size, 3, none⟩ = false := by simp [World.frozen?, hv3]
  clear hv3
  cases f1
  · have HN : Hid (res = none) := Lib.hid (by rw [← HV.out]; simp)
    go_wp2_with fail
    refine bodyPost_ret (v := .tuple #[.agg #[.int .i64 0, .string ⟨#[]⟩, .int .i64 0, .int .i64 0], .bool false]) (by simp [results, Tryz.results97, go_sem, c0, c1, c2, c3]) rfl ?_
    rw [HN.out]
    exact ⟨rfl, (((HB3.out.setCell (Nat.le_refl _) _).setCell (Nat.le_refl _) _).setCell (Nat.le_refl _) _).setCell (Nat.le_refl _) _⟩
  cases f2
  · have HN : Hid (res = none) := Lib.hid (by rw [← HV.out]; simp)
    go_wp2_with fail
    refine bodyPost_ret (v := .tuple #[.agg #[.int .i64 0, .string ⟨#[]⟩, .int .i64 0, .int .i64 0], .bool false]) (by simp [results, Tryz.results97, go_sem, c0, c1, c2, c3]) rfl ?_
    rw [HN.out]
    exact ⟨rfl, (((HB3.out.setCell (Nat.le_refl _) _).setCell (Nat.le_refl _) _).setCell (Nat.le_refl _) _).setCell (Nat.le_refl _) _⟩
  cases is
  · have HN : Hid (res = none) := Lib.hid (by rw [← HV.out]; simp)
    go_wp2_with fail
    refine bodyPost_ret (v := .tuple #[.agg #[.int .i64 0, .string ⟨#[]⟩, .int .i64 0, .int .i64 0], .bool false]) (by simp [results, Tryz.results97, go_sem, c0, c1, c2, c3]) rfl ?_
    rw [HN.out]
    exact ⟨rfl, (((HB3.out.setCell (Nat.le_refl _) _).setCell (Nat.le_refl _) _).setCell (Nat.le_refl _) _).setCell (Nat.le_refl _) _⟩
  by_cases hk : K.size = 1
  case neg =>
    have hkI : ¬ (K.size : Int) = 1 := by omega
    have HN : Hid (res = none) := Lib.hid (by rw [← HV.out]; rw [if_pos (by right; right; right; left; omega)])
    clear hk hk1
    go_wp2_with fail
    refine bodyPost_ret (v := .tuple #[.agg #[.int .i64 0, .string ⟨#[]⟩, .int .i64 0, .int .i64 0], .bool false]) (by simp [results, Tryz.results97, go_sem, c0, c1, c2, c3]) rfl ?_
    rw [HN.out]
    exact ⟨rfl, (((HB3.out.setCell (Nat.le_refl _) _).setCell (Nat.le_refl _) _).setCell (Nat.le_refl _) _).setCell (Nat.le_refl _) _⟩
  have hkI : (K.size : Int) = 1 := by omega
  cases lo
  · have HN : Hid (res = none) := Lib.hid (by rw [← HV.out]; simp)
    clear hk hk1
    go_wp2_with fail
    refine (HFR.out _).mono ?_
    rintro e w4 ⟨rfl, hb⟩
    have HB4 := Lib.hid (HB3.out.trans (hb.mono HB3.out.size))
    have hv4 := (hb.block _ hs3).trans HV3.out
    clear hb c0 c1 c2 c3 z0 z1 z2 z3
    have c0 : w4.cell? ⟨w.heap.size, 0, none⟩ = some (.int .i64 0) := by simp [World.cell?, hv4]
    have c1 : w4.cell? ⟨w.heap.size, 1, none⟩ = some (.string ⟨#[]⟩) := by simp [World.cell?, hv4]
    have c2 : w4.cell? ⟨w.heap.size, 2, none⟩ = some (.int .i64 0) := by simp [World.cell?, hv4]
    have c3 : w4.cell? ⟨w.heap.size, 3, none⟩ = some (.int .i64 0) := by simp [World.cell?, hv4]
    have z0 : w4.frozen? ⟨w.heap.size, 0, none⟩ = false := by simp [World.frozen?, hv4]
    have z1 : w4.frozen? ⟨w.heap.size, 1, none⟩ = false := by simp [World.frozen?, hv4]
    have z2 : w4.frozen? ⟨w.heap.size, 2, none⟩ = false := by simp [World.frozen?, hv4]
    have z3 : w4.frozen? ⟨w.heap.size, 3, none⟩ = false := by simp [World.frozen?, hv4]
    clear hv4
    go_wp2_with fail
    refine bodyPost_ret (v := .tuple #[.agg #[.int .i64 0, .string ⟨#[]⟩, .int .i64 0, .int .i64 0], .bool false]) (by simp [results, Tryz.results97, go_sem, c0, c1, c2, c3]) rfl ?_
    rw [HN.out]
    exact ⟨rfl, (((HB4.out.setCell (Nat.le_refl _) _).setCell (Nat.le_refl _) _).setCell (Nat.le_refl _) _).setCell (Nat.le_refl _) _⟩
  have hl1 : k1.length = 1 := by omega
  have HR : Hid ((if Sg.kindOf (k1[0]?.getD 0) = 0 then none else some (⟨Sg.kindOf (k1[0]?.getD 0), tx, a, b⟩ : Sg.VV)) = res) := Lib.hid (by rw [← HV.out]; simp [hl1])
  clear hl1
  have hk0 : 0 < K.size := by omega
  have hkb : k1[0]?.getD 0 = K[0]'hk0 := by
    have hKK := HKK.out
    subst hKK
    have : (Sg.bs k1).data.toList[0]? = some ((Sg.bs k1)[0]'hk0) := Lib.data_getElem? (Sg.bs k1) 0 hk0
    rw [Sg.bs_list] at this
    rw [this]; rfl
  rw [hkb] at HR
  generalize hkb2 : K[0]'hk0 = kb at HR
  have hcs := Sg.kindOf_cases kb
  clear hk hk1 hkb
  go_wp2_with fail
  refine (HFR.out _).mono ?_
  rintro e w4 ⟨rfl, hb⟩
  have HB4 := Lib.hid (HB3.out.trans (hb.mono HB3.out.size))
  have hv4 := (hb.block _ hs3).trans HV3.out
  have hG4 := HG.out w4 HB4.out
  obtain ⟨-, q0, q1, q2⟩ := hG4
  clear hb c0 c1 c2 c3 z0 z1 z2 z3 HFR HV
  have c0 : w4.cell? ⟨w.heap.size, 0, none⟩ = some (.int .i64 0) := by simp [World.cell?, hv4]
  have c1 : w4.cell? ⟨w.heap.size, 1, none⟩ = some (.string ⟨#[]⟩) := by simp [World.cell?, hv4]
  have c2 : w4.cell? ⟨w.heap.size, 2, none⟩ = some (.int .i64 0) := by simp [World.cell?, hv4]
  have c3 : w4.cell? ⟨w.heap.size, 3, none⟩ = some (.int .i64 0) := by simp [World.cell?, hv4]
  have z0 : w4.frozen? ⟨w.heap.size, 0, none⟩ = false := by simp [World.frozen?, hv4]
  have z1 : w4.frozen? ⟨w.heap.size, 1, none⟩ = false := by simp [World.frozen?, hv4]
  have z2 : w4.frozen? ⟨w.heap.size, 2, none⟩ = false := by simp [World.frozen?, hv4]
  have z3 : w4.frozen? ⟨w.heap.size, 3, none⟩ = false := by simp [World.frozen?, hv4]
  clear hv4
  rcases hcs with ⟨h1, hkd⟩ | ⟨h1, h2, hkd⟩ | ⟨h1, h2, h3, hkd⟩ | ⟨h1, h2, h3, hkd⟩
  · have d0 : (kb.toNat : Int) = 115 := by rw [h1]; rfl
    have HN : Hid (res = some ⟨1, tx, a, b⟩) := Lib.hid (by rw [← HR.out, hkd]; rfl)
    clear h1 hkd
    go_wp2_with fail
    refine wp_loop_rounds 4 ?_
    rw [rounds_succ]
    go_wp2_with fail
    go_quiet (fail)
    go_wp2_with fail
    refine bodyPost_ret (v := .tuple #[.agg #[.int .i64 1, .string X, .int .i64 a, .int .i64 b], .bool true]) (by simp [results, Tryz.results97, go_sem, c0, c1, c2, c3]) rfl ?_
    rw [HN.out, HXX.out]
    exact ⟨rfl, ((((below_drewN HB4.out _).setCell (Nat.le_refl _) _).setCell (Nat.le_refl _) _).setCell (Nat.le_refl _) _).setCell (Nat.le_refl _) _⟩
  · have d0 : ((115 : Int) == (kb.toNat : Int)) = false := by rw [beq_eq_false_iff_ne]; intro e; exact h1 (UInt8.toNat_inj.1 (by have : (115 : UInt8).toNat = 115 := rfl; omega))
    have d1 : (kb.toNat : Int) = 119 := by rw [h2]; rfl
    have HN : Hid (res = some ⟨2, tx, a, b⟩) := Lib.hid (by rw [← HR.out, hkd]; rfl)
    clear h1 hkd h2
    go_wp2_with fail
    refine wp_loop_rounds 4 ?_
    rw [rounds_succ]
    go_wp2_with fail
    go_quiet (fail)
    go_wp2_with fail
    rw [rounds_succ]
    go_wp2_with fail
    go_quiet (fail)
    go_wp2_with fail
    refine bodyPost_ret (v := .tuple #[.agg #[.int .i64 2, .string X, .int .i64 a, .int .i64 b], .bool true]) (by simp [results, Tryz.results97, go_sem, c0, c1, c2, c3]) rfl ?_
    rw [HN.out, HXX.out]
    exact ⟨rfl, ((((below_drewN HB4.out _).setCell (Nat.le_refl _) _).setCell (Nat.le_refl _) _).setCell (Nat.le_refl _) _).setCell (Nat.le_refl _) _⟩
  · have d0 : ((115 : Int) == (kb.toNat : Int)) = false := by rw [beq_eq_false_iff_ne]; intro e; exact h1 (UInt8.toNat_inj.1 (by have : (115 : UInt8).toNat = 115 := rfl; omega))
    have d1 : ((119 : Int) == (kb.toNat : Int)) = false := by rw [beq_eq_false_iff_ne]; intro e; exact h2 (UInt8.toNat_inj.1 (by have : (119 : UInt8).toNat = 119 := rfl; omega))
    have d2 : (kb.toNat : Int) = 99 := by rw [h3]; rfl
    have HN : Hid (res = some ⟨3, tx, a, b⟩) := Lib.hid (by rw [← HR.out, hkd]; rfl)
    clear h1 hkd h2 h3
    go_wp2_with fail
    refine wp_loop_rounds 4 ?_
    rw [rounds_succ]
    go_wp2_with fail
    go_quiet (fail)
    go_wp2_with fail
    rw [rounds_succ]
    go_wp2_with fail
    go_quiet (fail)
    go_wp2_with fail
    rw [rounds_succ]
    go_wp2_with fail
    go_quiet (fail)
    go_wp2_with fail
    refine bodyPost_ret (v := .tuple #[.agg #[.int .i64 3, .string X, .int .i64 a, .int .i64 b], .bool true]) (by simp [results, Tryz.results97, go_sem, c0, c1, c2, c3]) rfl ?_
    rw [HN.out, HXX.out]
    exact ⟨rfl, ((((below_drewN HB4.out _).setCell (Nat.le_refl _) _).setCell (Nat.le_refl _) _).setCell (Nat.le_refl _) _).setCell (Nat.le_refl _) _⟩
  · have d0 : ((115 : Int) == (kb.toNat : Int)) = false := by rw [beq_eq_false_iff_ne]; intro e; exact h1 (UInt8.toNat_inj.1 (by have : (115 : UInt8).toNat = 115 := rfl; omega))
    have d1 : ((119 : Int) == (kb.toNat : Int)) = false := by rw [beq_eq_false_iff_ne]; intro e; exact h2 (UInt8.toNat_inj.1 (by have : (119 : UInt8).toNat = 119 := rfl; omega))
    have d2 : ((99 : Int) == (kb.toNat : Int)) = false := by rw [beq_eq_false_iff_ne]; intro e; exact h3 (UInt8.toNat_inj.1 (by have : (99 : UInt8).toNat = 99 := rfl; omega))
    have HN : Hid (res = none) := Lib.hid (by rw [← HR.out, hkd]; rfl)
    clear h1 hkd h2 h3
    go_wp2_with fail
    refine wp_loop_rounds 4 ?_
    rw [rounds_succ]
    go_wp2_with fail
    go_quiet (fail)
    go_wp2_with fail
    rw [rounds_succ]
    go_wp2_with fail
    go_quiet (fail)
    go_wp2_with fail
    rw [rounds_succ]
    go_wp2_with fail
    go_quiet (fail)
    go_wp2_with fail
    rw [rounds_succ]
    go_wp2_with fail
    refine bodyPost_ret (v := .tuple #[.agg #[.int .i64 0, .string ⟨#[]⟩, .int .i64 0, .int .i64 0], .bool false]) (by simp [results, Tryz.results97, go_sem, c0, c1, c2, c3]) rfl ?_
    rw [HN.out]
    exact ⟨rfl, ((((below_drewN HB4.out _).setCell (Nat.le_refl _) _).setCell (Nat.le_refl _) _).setCell (Nat.le_refl _) _).setCell (Nat.le_refl _) _⟩
end Go.Proofs.YtkmimjngmfdpmaaGreatDoor
