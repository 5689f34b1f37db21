/- ostraconref05.put. Made by gen_rput.py. -/
import Derived.Test.YtpmfjndbckblfaaDoorMgRRow
import Derived.Test.YtpmfjndbckblfaaDoorMgRegion4
namespace Go.Proofs.YtpmfjndbckblfaaDoor
open Go.RowKit

/-- the list with one more at place i -/
def Lx.atC (L : List Lx.Cut) (i : Nat) (c : Lx.Cut) : List Lx.Cut := L.take i ++ c :: L.drop i
theorem Lx.insC_at : ∀ {L : List Lx.Cut} {c : Lx.Cut} {i : Nat}, i ≤ L.length → (∀ j y, j < i → L[j]? = some y → Lx.rb c y = false) → (∀ y, L[i]? = some y → Lx.rb c y = true) → Lx.insC L c = Lx.atC L i c
  | [], c, i, hi, _, _ => by simp at hi; subst hi; rfl
  | z :: r, c, 0, _, _, h => by rw [Lx.insC, if_pos (h z rfl)]; rfl
  | z :: r, c, i + 1, hi, h1, h2 => by
    rw [Lx.insC, if_neg (by rw [h1 0 z (by omega) rfl]; simp), Lx.insC_at (i := i) (by simpa using hi) (fun j y hj hy => h1 (j + 1) y (by omega) (by simpa using hy)) (fun y hy => h2 y (by simpa using hy))]
    rfl
theorem Lx.atC_swap {L : List Lx.Cut} {c m : Lx.Cut} {k : Nat} (hm : L[k]? = some m) : (Lx.atC L (k + 1) c)[k]? = some m ∧ (Lx.atC L (k + 1) c)[k + 1]? = some c ∧ (Lx.atC L (k + 1) c).take k ++ c :: m :: (Lx.atC L (k + 1) c).drop (k + 2) = Lx.atC L k c := by
  obtain ⟨h1, rfl⟩ := List.getElem?_eq_some_iff.1 hm
  have ht : L.take (k + 1) = L.take k ++ [L[k]] := List.take_succ_eq_append_getElem h1
  have hl : (L.take k).length = k := by rw [List.length_take]; omega
  unfold Lx.atC
  rw [ht, List.append_assoc]
  refine ⟨?_, ?_, ?_⟩
  · rw [List.getElem?_append_right (by omega), hl, Nat.sub_self]; rfl
  · rw [List.getElem?_append_right (by omega), hl, Nat.add_sub_cancel_left]; rfl
  · rw [List.take_append_of_le_length (by omega), List.take_of_length_le (by omega), List.drop_append, hl, List.drop_eq_nil_of_le (by omega), List.nil_append, show k + 2 - k = 2 by omega, List.drop_eq_getElem_cons h1]
    rfl
theorem Lx.atC_len {L : List Lx.Cut} {c : Lx.Cut} {i : Nat} (h : i ≤ L.length) : (Lx.atC L i c).length = L.length + 1 := by
  unfold Lx.atC
  rw [List.length_append, List.length_cons, List.length_take, List.length_drop]
  omega
structure RpR (T0 : Array Value) (W0 : World) (gb n cap k : Nat) (fc fl : Value) (wc0 wl : Int) (r : Bool) (d : Array Bool) (t : Array Value) (wc : World) : Prop where
  bel : Below W0.heap.size W0 wc
  siz : t.size = 55
  kp : ∀ i, i ∉ ([15, 16, 17, 18, 19, 20, 21, 22, 23, 24, 25, 26, 27, 28] : List Nat) → t[i]? = T0[i]?
  k0 : t[0]? = some (.slice (some ⟨gb, 0, none⟩) n cap)
  k7 : t[7]? = some (.int .i64 ((k : Int) + 1))
  p0 : dn d 0 → t[15]? = some (.int .i64 ((k : Int) + 1))
  p1 : dn d 1 → t[16]? = some (.bool true)
  p2 : dn d 2 → t[17]? = some (.bool true)
  p3 : dn d 3 → t[18]? = some (.slice (some ⟨gb, 0, none⟩) n cap)
  p4 : dn d 4 → t[19]? = some (.int .i64 ((k : Int) + 1))
  p5 : dn d 5 → t[20]? = some (.pointer (some ⟨gb, (k + 1) * 2, none⟩))
  p6 : dn d 6 → t[21]? = some (.agg #[fc, .int .i64 wc0])
  p7 : dn d 7 → t[22]? = some (.slice (some ⟨gb, 0, none⟩) n cap)
  p8 : dn d 8 → t[23]? = some (.int .i64 ((k : Int) + 1))
  p9 : dn d 9 → t[24]? = some (.int .i64 (k : Int))
  p10 : dn d 10 → t[25]? = some (.pointer (some ⟨gb, k * 2, none⟩))
  p11 : dn d 11 → t[26]? = some (.agg #[fl, .int .i64 wl])
  p12 : dn d 12 → t[27]? = some (.bool r)
  p13 : dn d 13 → t[28]? = some (.bool r)
def RpI (T0 : Array Value) (W0 : World) (gb n cap k : Nat) (fc fl : Value) (wc0 wl : Int) (r : Bool) (d : Array Bool) (a : Act) (wc : World) : Prop := ∃ t : Array Value, a = ⟨t, []⟩ ∧ RpR T0 W0 gb n cap k fc fl wc0 wl r d t wc
structure RqR (T0 : Array Value) (W0 : World) (Bs gb n cap k : Nat) (fc fl : Value) (wc0 wl : Int) (d : Array Bool) (t : Array Value) (wc : World) : Prop where
  bel : Below Bs W0 wc
  siz : t.size = 55
  kp : ∀ i, i ∉ ([31, 32, 33, 34, 35, 36, 37, 38, 39, 40, 41, 42, 43, 44, 45, 46] : List Nat) → t[i]? = T0[i]?
  k0 : t[0]? = some (.slice (some ⟨gb, 0, none⟩) n cap)
  k7 : t[7]? = some (.int .i64 ((k : Int) + 1))
  p0 : dn d 0 → t[31]? = some (.slice (some ⟨gb, 0, none⟩) n cap)
  p1 : dn d 1 → t[32]? = some (.int .i64 ((k : Int) + 1))
  p2 : dn d 2 → t[33]? = some (.slice (some ⟨gb, 0, none⟩) n cap)
  p3 : dn d 3 → t[34]? = some (.int .i64 ((k : Int) + 1))
  p4 : dn d 4 → t[35]? = some (.int .i64 (k : Int))
  p5 : dn d 5 → t[36]? = some (.slice (some ⟨gb, 0, none⟩) n cap)
  p6 : dn d 6 → t[37]? = some (.int .i64 ((k : Int) + 1))
  p7 : dn d 7 → t[38]? = some (.int .i64 (k : Int))
  p8 : dn d 8 → t[39]? = some (.pointer (some ⟨gb, k * 2, none⟩))
  p9 : dn d 9 → t[40]? = some (.agg #[fl, .int .i64 wl])
  p10 : dn d 10 → t[41]? = some (.slice (some ⟨gb, 0, none⟩) n cap)
  p11 : dn d 11 → t[42]? = some (.int .i64 ((k : Int) + 1))
  p12 : dn d 12 → t[43]? = some (.pointer (some ⟨gb, (k + 1) * 2, none⟩))
  p13 : dn d 13 → t[44]? = some (.agg #[fc, .int .i64 wc0])
  p14 : dn d 14 → t[45]? = some (.pointer (some ⟨gb, (k + 1) * 2, none⟩))
  p16 : dn d 16 → t[46]? = some (.pointer (some ⟨gb, k * 2, none⟩))
  l15 : dn d 15 → dn d 9 ∧ dn d 13
  l17 : dn d 17 → dn d 15
  hp : ¬ dn d 15 → wc.heap = W0.heap
  q15 : dn d 15 → ¬ dn d 17 → wc.heap = ((W0.setCell ⟨gb, (k + 1) * 2, none⟩ fl).setCell ⟨gb, (k + 1) * 2 + 1, none⟩ (.int .i64 wl)).heap
  q17 : dn d 17 → wc.heap = ((((W0.setCell ⟨gb, (k + 1) * 2, none⟩ fl).setCell ⟨gb, (k + 1) * 2 + 1, none⟩ (.int .i64 wl)).setCell ⟨gb, k * 2, none⟩ fc).setCell ⟨gb, k * 2 + 1, none⟩ (.int .i64 wc0)).heap
def RqI (T0 : Array Value) (W0 : World) (Bs gb n cap k : Nat) (fc fl : Value) (wc0 wl : Int) (d : Array Bool) (a : Act) (wc : World) : Prop := ∃ t : Array Value, a = ⟨t, []⟩ ∧ RqR T0 W0 Bs gb n cap k fc fl wc0 wl d t wc

theorem RowC.below {w w' : World} {base g cap : Nat} {M : List Lx.Cut} {cur : Array Value} (h : RowC w base g cap M cur) (hb : Below w.heap.size w w') : RowC w' base g cap M cur :=
  ⟨(hb.block g (Array.getElem?_eq_some_iff.1 h.blk).1).trans h.blk, h.siz, h.len, fun j m hj => by
    obtain ⟨f, e1, e2, e3⟩ := h.at_ j m hj
    exact ⟨f, e1, e2, e3.keep fun b hk => ⟨⟨Nat.lt_of_lt_of_le hk.1 hb.size, hk.2⟩, hb.block b hk.1⟩⟩⟩
theorem RowC.take {w : World} {base g cap : Nat} {M : List Lx.Cut} {cur : Array Value} (h : RowC w base g cap M cur) (k : Nat) : RowC w base g cap (M.take k) cur :=
  ⟨h.blk, h.siz, by rw [List.length_take]; have := h.len; omega, fun j m hj => by
    rw [List.getElem?_take] at hj
    split at hj
    · exact h.at_ j m hj
    · cases hj⟩
theorem Lx.up_ofC {L : List Lx.Cut} (h : Lx.Asc L) {c : Lx.Cut} {j k : Nat} {y z : Lx.Cut} (hjk : j ≤ k) (hy : L[j]? = some y) (hz : L[k]? = some z) (ht : Lx.rb c y = true) : Lx.rb c z = true := by
  rcases Nat.lt_or_eq_of_le hjk with h1 | h1
  · have h2 : Lx.rb z y = false := by
      unfold Lx.Asc at h
      rw [List.pairwise_iff_getElem] at h
      obtain ⟨g1, rfl⟩ := List.getElem?_eq_some_iff.1 hy
      obtain ⟨g2, rfl⟩ := List.getElem?_eq_some_iff.1 hz
      exact h j k g1 g2 h1
    cases h3 : Lx.rb c z
    · cases h4 : Lx.rb z c
      · rw [Lx.rb_total h3 h4] at ht
        rw [ht] at h2
        cases h2
      · have := Lx.rb_trans h4 ht
        rw [h2] at this
        cases this
    · rfl
  · subst h1
    rw [hy] at hz
    cases hz
    exact ht
theorem info_rCut : (Tryd.prog.info? 51).map (fun i => (i.zero, i.size, i.bytes)) = some (some (.agg #[.slice none 0 0, .int .i64 0]), 2, 32) := by kernel_rfl
/-- what put leaves -/
def PutPost (w : World) (base : Nat) (v : Value) (M : List Lx.Cut) (e : Ending) (w' : World) : Prop :=
  ∃ v', e = .returned v' ∧ OwnG KCut 51 w' base v' M ∧ w.grownBy w' v.ownBlock ∧ (v'.ownBlock = v.ownBlock ∨ ∃ g, v'.ownBlock = some g ∧ w.heap.size ≤ g)

set_option maxRecDepth 100000 in
set_option maxHeartbeats 8000000 in
theorem rput_any (w : World) (base most : Nat) (v vc : Value) (L : List Lx.Cut) (c : Lx.Cut) (hown : OwnG KCut 51 w base v L) (hvc : ∃ f, vc = .agg #[f, .int .i64 c.2] ∧ RdG KForm w (fun b => b < w.heap.size ∧ v.ownBlock ≠ some b ∧ base ≤ b) f c.1) (hL : L.length ≤ 64) (hm1 : 1 ≤ most) (hm2 : most ≤ 64) (hbase : base ≤ w.heap.size)
    (hasc : Lx.Asc L) (hsm : ∀ y ∈ L, ∀ f ∈ y.1, FSmall f) (hsc : ∀ f ∈ c.1, FSmall f) :
    Calls Tryd.prog 72 #[v, vc, .int .i64 most] w (PutPost w base v (Lx.putC most L c)) := by
  obtain ⟨f0, rfl, hf0⟩ := hvc
  have HF0 := Lib.hid hf0
  obtain ⟨Af, cf, rfl⟩ := hf0.form
  have HASC := Lib.hid hasc
  have HSM := Lib.hid hsm
  have HSC := Lib.hid hsc
  obtain ⟨cells, hownF, hrowsF⟩ := hown
  obtain ⟨Av, cv, rfl⟩ := own_form hownF
  have HOWNF := Lib.hid hownF
  have HROWSF := Lib.hid hrowsF
  obtain ⟨i3, hi3, hz3, hs3', hb3'⟩ := info_parts info_rCut
  obtain ⟨W2, hW2⟩ : ∃ W2, W2 = (w.alloc (.cells #[.slice Af c.1.length cf, .int .i64 c.2] 51)).alloc (.cells #[.slice Af c.1.length cf, .int .i64 c.2] 51) := ⟨_, rfl⟩
  have hb2 : Below w.heap.size w W2 := by rw [hW2]; exact ((Below.refl _ _).alloc (Nat.le_refl _) _).alloc (by simp) _
  have hs2 : W2.heap.size = w.heap.size + 2 := by rw [hW2]; simp
  have hl2 : W2.heap[w.heap.size + 1]? = some (.cells #[.slice Af c.1.length cf, .int .i64 c.2] 51 (0, 0)) := by rw [hW2]; exact start_res2 w _ _
  have HR2 : Hid (RdS W2 (w.heap.size + 2) 2 enc2 (.slice (some ⟨w.heap.size + 1, 0, none⟩) 1 1) [((Af, c.1.length, cf), c.2)]) := Lib.hid (rds_block (xs := [((Af, c.1.length, cf), c.2)]) len_2 hl2 rfl (by omega) (Nat.le_refl 1) (by decide))
  have HOWN2 := Lib.hid (keep_own hownF hb2)
  have HB2 := Lib.hid hb2
  have HW2 := Lib.hid hW2
  clear hf0 hasc hsm hsc hownF hrowsF hb2 hl2 hW2
  go_enter Tryd.func72, Tryd.ntmps72
  go_wp2_with (at_builtin; go_must (rw [← HW2.out]; refine wpList_append_rd (enc := enc2) rfl (.tmp 8) (.tmp 10) _ rfl base 51 i3 _ 2 32 len_2 one_2 Tryd.underlying45 hi3 hz3 hs3' hb3' rfl (by decide) (.slice Av L.length cv) L.length cells rfl HOWN2.out (w.heap.size + 2) (.slice (some ⟨w.heap.size + 1, 0, none⟩) 1 1) [((Af, c.1.length, cf), c.2)] ?hsv HR2.out ?h63 ?hb ?hB ?_))
  case hsv => rfl
  case h63 => simp only [maxLen]; show L.length + 1 ≤ _; omega
  case hb => show (L.length + 1) * 32 ≤ _; omega
  case hB => omega
  intro v8 w8 hown8 hg8 hat8
  obtain ⟨A8, c8, rfl⟩ := own_form hown8
  have hs8 := hg8.size
  have hog8 : OwnG KCut 51 w8 base (.slice A8 (L.length + 1) c8) (L ++ [c]) := by
    refine OwnG.snoc (K := KCut) (w := W2) (v := .slice Av L.length cv) (cells := cells) (cs := [.slice Af c.1.length cf, .int .i64 c.2]) ?_ ⟨_, rfl, ?_⟩ ?_ hg8 (hat8.imp id fun e => ⟨_, e, by omega⟩)
    · exact HROWSF.out.keep (fun b hb => ⟨⟨by omega, hb.2⟩, HB2.out.block b hb.1⟩)
    · exact HF0.out.keep (fun b hb => ⟨⟨by omega, hb.2⟩, HB2.out.block b hb.1⟩)
    · have h8 : w8.ownsRow base 51 2 (.slice A8 (L.length + 1) c8) (L.length + 1) (cells ++ [.slice Af c.1.length cf, .int .i64 c.2]) := by simpa [enc2] using hown8
      exact h8
  have hgw : w.grownBy w8 (Value.slice Av L.length cv).ownBlock := grown_after (grown_of_below HB2.out) hg8 (.inl rfl)
  have HAT : Hid ((Value.slice A8 (L.length + 1) c8).ownBlock = (Value.slice Av L.length cv).ownBlock ∨ ∃ g, (Value.slice A8 (L.length + 1) c8).ownBlock = some g ∧ w.heap.size ≤ g) := Lib.hid (hat8.imp id fun e => ⟨_, e, by omega⟩)
  obtain ⟨gb, cap, cur0, hve, hgb, hgl, hcap, hrow⟩ := own_rowC hog8 (by simp)
  have hLc : (L ++ [c]).length = L.length + 1 := by simp
  rw [hLc] at hve
  cases hve
  have hca : L ++ [c] = Lx.atC L L.length c := by unfold Lx.atC; rw [List.take_of_length_le (Nat.le_refl _), List.drop_eq_nil_of_le (Nat.le_refl _)]
  rw [hca] at hrow
  have HROW := Lib.hid hrow
  have HGW := Lib.hid hgw
  have hcl := hrow.len
  rw [Lx.atC_len (Nat.le_refl _)] at hcl
  have hc63 : c8 ≤ 9223372036854775807 := by simpa [maxLen] using hcap
  have FIN : Hid (∀ (i : Nat) (cur : Array Value) (W : World), i ≤ L.length → RowC W base gb c8 (Lx.atC L i c) cur → w8.grownBy W (some gb) → (∀ j y, i ≤ j → L[j]? = some y → Lx.rb c y = true) → (∀ k m, i = k + 1 → L[k]? = some m → Lx.rb c m = false) →
      ∀ k, k = min (L.length + 1) most → PutPost w base (.slice Av L.length cv) (Lx.putC most L c) (.returned (.slice (some ⟨gb, 0, none⟩) k c8)) W) := Lib.hid fun i cur W hi hr hg hup hlo k hk => by
    have hins : Lx.insC L c = Lx.atC L i c := Lx.insC_at hi (fun j y hj hy => by
      cases hb : Lx.rb c y
      · rfl
      · obtain ⟨k', hk'⟩ : ∃ k', i = k' + 1 := ⟨i - 1, by omega⟩
        have hkl : k' < L.length := by omega
        have h1 := Lx.up_ofC HASC.out (j := j) (k := k') (by omega) hy (List.getElem?_eq_getElem hkl) hb
        rw [hlo k' _ hk' (List.getElem?_eq_getElem hkl)] at h1
        cases h1) (fun y hy => hup i y (Nat.le_refl _) hy)
    refine ⟨_, rfl, ?_, ?_, ?_⟩
    · unfold Lx.putC
      rw [hins]
      have h1 := rowC_own (hr.take most) hgb hcap
      have h2 : ((Lx.atC L i c).take most).length = k := by rw [List.length_take, Lx.atC_len hi, hk, Nat.min_comm]
      rw [h2] at h1
      exact h1
    · rcases HAT.out with e | ⟨g, e, hg'⟩
      · exact grown_after HGW.out hg (.inl (by rw [← e]; rfl))
      · exact grown_after HGW.out hg (.inr ⟨g, by rw [← e]; rfl, hg'⟩)
    · exact HAT.out
  clear hown8 hg8 hat8 hog8 hgw hrow hca
  go_wp2_with fail
  go_loopg [7] L.length (fun gm v7 wr => ∃ (i : Nat) (cur : Array Value), i ≤ L.length ∧ gm = i ∧ v7 = .int .i64 (i : Int) ∧ RowC wr base gb c8 (Lx.atC L i c) cur ∧ w8.grownBy wr (some gb) ∧ (∀ j y, i ≤ j → L[j]? = some y → Lx.rb c y = true))
  case atStart => exact ⟨L.length, cur0, Nat.le_refl _, rfl, by go_num, HROW.out, World.grownBy.refl _ _, fun j y hj hy => by rw [List.getElem?_eq_none hj] at hy; cases hy⟩
  case round =>
    obtain ⟨i, cur, hi, hgm, rfl, hr, hg, hup⟩ := hrel
    have HGM := Lib.hid hgm
    have HR := Lib.hid hr
    have HG := Lib.hid hg
    have HUP := Lib.hid hup
    clear hgm hg hup
    cases i with
    | zero =>
      clear hr
      go_upto_region 3 with fail
      go_cut [28] (fun t wc => t = .bool false ∧ ∃ n, wc = wr.drewN n)
      case first =>
        go_quiet (fail)
        all_goals go_wp2_with fail
        all_goals
          go_meet
          go_light
          exact ⟨rfl, _, rfl⟩
      case rest =>
        rename World => wk
        obtain ⟨rfl, nd, hwk⟩ := hcut
        have HRK : Hid (RowC wk base gb c8 (Lx.atC L 0 c) cur) := Lib.hid (by rw [hwk]; exact HR.out.below (below_drewN (Below.refl _ _) _))
        have HGK : Hid (w8.grownBy wk (some gb)) := Lib.hid (by rw [hwk]; exact grown_after HG.out (grown_of_below (row := some gb) (below_drewN (Below.refl _ _) _)) (.inl rfl))
        clear hwk
        by_cases hmost : most < L.length + 1
        · have hmI : (most : Int) < (L.length : Int) + 1 := by omega
          have hmc : (most : Int) ≤ (c8 : Int) := by omega
          go_wp2_with fail
          go_ret
          exact FIN.out 0 cur wk (by omega) HRK.out HGK.out HUP.out (fun k m h => by omega) most (by omega)
        · have hmI : ¬ (most : Int) < (L.length : Int) + 1 := by omega
          go_wp2_with fail
          go_ret
          exact FIN.out 0 cur wk (by omega) HRK.out HGK.out HUP.out (fun k m h => by omega) (L.length + 1) (by omega)
    | succ k =>
      obtain ⟨m, hmk⟩ : ∃ m, L[k]? = some m := ⟨_, List.getElem?_eq_getElem (by omega)⟩
      have hsw := Lx.atC_swap (c := c) hmk
      obtain ⟨fl, e0, e1, hfl⟩ := hr.at_ k m hsw.1
      obtain ⟨fc, g0, g1, hfc⟩ := hr.at_ (k + 1) c hsw.2.1
      have hblk := hr.blk
      have hgbl : gb < wr.heap.size := (Array.getElem?_eq_some_iff.1 hblk).1
      have HRB0 : Hid (∀ W : World, Below wr.heap.size wr W → Calls Tryd.prog 102 #[.agg #[fc, .int .i64 c.2], .agg #[fl, .int .i64 m.2]] W (RetBB (Lx.rb c m) W)) := Lib.hid fun W hW =>
        rbefore_any _ _ c m W (fun b => b < W.heap.size) (fun _ h => h) ⟨fc, rfl, hfc.keep fun b hb => ⟨by have := hW.size; omega, hW.block b hb.1⟩⟩ ⟨fl, rfl, hfl.keep fun b hb => ⟨by have := hW.size; omega, hW.block b hb.1⟩⟩ HSC.out (HSM.out m (List.mem_of_getElem? hmk))
      have HFL := Lib.hid hfl
      have HFC := Lib.hid hfc
      obtain ⟨Al, cl0, rfl⟩ := hfl.form
      obtain ⟨Ac, cc0, rfl⟩ := hfc.form
      generalize hnl : m.1.length = nl at *
      generalize hnc : c.1.length = nc at *
      have HRB := HRB0
      have CL : Hid (∀ W : World, Below wr.heap.size wr W → W.cell? ⟨gb, (k + 1) * 2, none⟩ = some (.slice Ac nc cc0) ∧ W.cell? ⟨gb, (k + 1) * 2 + 1, none⟩ = some (.int .i64 c.2) ∧ W.cell? ⟨gb, k * 2, none⟩ = some (.slice Al nl cl0) ∧ W.cell? ⟨gb, k * 2 + 1, none⟩ = some (.int .i64 m.2)) := Lib.hid fun W hW => by
        have p := (hW.block gb hgbl).trans hblk
        rw [Nat.mul_comm (k + 1) 2, Nat.mul_comm k 2]
        exact ⟨by simp [World.cell?, p, g0], by simp [World.cell?, p, g1], by simp [World.cell?, p, e0], by simp [World.cell?, p, e1]⟩
      have HMK := Lib.hid hmk
      have HSW := Lib.hid hsw
      have HE0 := Lib.hid e0
      have HG0 := Lib.hid g0
      clear hr hmk hsw e0 e1 g0 g1 hfl hfc hblk HRB0
      go_upto_region 3 with fail
      refine wp_region_inv2T (fun T0 => RpI T0 wr gb (L.length + 1) c8 k (.slice Ac nc cc0) (.slice Al nl cl0) c.2 m.2 (Lx.rb c m)) (by kernel_rfl) (by kernel_rfl) ?g0a ?gstepa ?genda
      case g0a =>
        have hno : ∀ j, ¬ dn (Array.replicate 14 false) j := by
          intro j; unfold dn; by_cases hj : j < 14 <;> simp [Array.getD, hj]
        have na : ∀ {j : Nat} {Z : Prop}, dn (Array.replicate 14 false) j → Z := fun hj => absurd hj (hno _)
        exact ⟨_, rfl, { bel := (Below.refl _ _).drew, siz := rfl, kp := fun _ _ => rfl, k0 := rfl, k7 := rfl, p0 := na, p1 := na, p2 := na, p3 := na, p4 := na, p5 := na, p6 := na, p7 := na, p8 := na, p9 := na, p10 := na, p11 := na, p12 := na, p13 := na }⟩
      case gstepa =>
        intro T0 d a wc i hd hI hi
        obtain ⟨hlt, hnd, hpre⟩ := mem_ready hi
        have hd' : d.size = 14 := hd
        have hin : i < 14 := hlt
        clear hi hd hlt
        obtain ⟨t, rfl, h⟩ := hI
        have hcs : i = 0 ∨ i = 1 ∨ i = 2 ∨ i = 3 ∨ i = 4 ∨ i = 5 ∨ i = 6 ∨ i = 7 ∨ i = 8 ∨ i = 9 ∨ i = 10 ∨ i = 11 ∨ i = 12 ∨ i = 13 := by omega
        rcases hcs with rfl | rfl | rfl | rfl | rfl | rfl | rfl | rfl | rfl | rfl | rfl | rfl | rfl | rfl
        · have hi : 0 < d.size := by omega
          have q7 := h.k7
          refine wpOp_plain rfl rfl ?_
          go_simp
          exact ⟨_, rfl, { bel := h.bel, siz := (by simpa using h.siz), kp := rk h.kp, k0 := rs h.k0, k7 := rs h.k7, p0 := fun _ => set_same (by have := h.siz; omega), p1 := rp hi h.p1, p2 := rp hi h.p2, p3 := rp hi h.p3, p4 := rp hi h.p4, p5 := rp hi h.p5, p6 := rp hi h.p6, p7 := rp hi h.p7, p8 := rp hi h.p8, p9 := rp hi h.p9, p10 := rp hi h.p10, p11 := rp hi h.p11, p12 := rp hi h.p12, p13 := rp hi h.p13 }⟩
        · have hi : 1 < d.size := by omega
          have e0 := h.p0 (hpre _ rfl ⟨0, .data⟩ (by simp) rfl)
          refine wpOp_plain rfl rfl ?_
          go_simp
          exact ⟨_, rfl, { bel := h.bel, siz := (by simpa using h.siz), kp := rk h.kp, k0 := rs h.k0, k7 := rs h.k7, p0 := rp hi h.p0, p1 := fun _ => set_same (by have := h.siz; omega), p2 := rp hi h.p2, p3 := rp hi h.p3, p4 := rp hi h.p4, p5 := rp hi h.p5, p6 := rp hi h.p6, p7 := rp hi h.p7, p8 := rp hi h.p8, p9 := rp hi h.p9, p10 := rp hi h.p10, p11 := rp hi h.p11, p12 := rp hi h.p12, p13 := rp hi h.p13 }⟩
        · have hi : 2 < d.size := by omega
          have e1 := h.p1 (hpre _ rfl ⟨1, .data⟩ (by simp) rfl)
          refine wpOp_plain rfl rfl ?_
          go_simp
          exact ⟨_, rfl, { bel := h.bel, siz := (by simpa using h.siz), kp := rk h.kp, k0 := rs h.k0, k7 := rs h.k7, p0 := rp hi h.p0, p1 := rp hi h.p1, p2 := fun _ => set_same (by have := h.siz; omega), p3 := rp hi h.p3, p4 := rp hi h.p4, p5 := rp hi h.p5, p6 := rp hi h.p6, p7 := rp hi h.p7, p8 := rp hi h.p8, p9 := rp hi h.p9, p10 := rp hi h.p10, p11 := rp hi h.p11, p12 := rp hi h.p12, p13 := rp hi h.p13 }⟩
        · have hi : 3 < d.size := by omega
          have q0 := h.k0
          refine wpOp_guard rfl (wanted_of (d := 17) rfl rfl (h.p2 (hpre _ rfl ⟨2, .guard⟩ (by simp) rfl))) ?_
          go_simp
          exact ⟨_, rfl, { bel := h.bel, siz := (by simpa using h.siz), kp := rk h.kp, k0 := rs h.k0, k7 := rs h.k7, p0 := rp hi h.p0, p1 := rp hi h.p1, p2 := rp hi h.p2, p3 := fun _ => set_same (by have := h.siz; omega), p4 := rp hi h.p4, p5 := rp hi h.p5, p6 := rp hi h.p6, p7 := rp hi h.p7, p8 := rp hi h.p8, p9 := rp hi h.p9, p10 := rp hi h.p10, p11 := rp hi h.p11, p12 := rp hi h.p12, p13 := rp hi h.p13 }⟩
        · have hi : 4 < d.size := by omega
          have q7 := h.k7
          refine wpOp_guard rfl (wanted_of (d := 17) rfl rfl (h.p2 (hpre _ rfl ⟨2, .guard⟩ (by simp) rfl))) ?_
          go_simp
          exact ⟨_, rfl, { bel := h.bel, siz := (by simpa using h.siz), kp := rk h.kp, k0 := rs h.k0, k7 := rs h.k7, p0 := rp hi h.p0, p1 := rp hi h.p1, p2 := rp hi h.p2, p3 := rp hi h.p3, p4 := fun _ => set_same (by have := h.siz; omega), p5 := rp hi h.p5, p6 := rp hi h.p6, p7 := rp hi h.p7, p8 := rp hi h.p8, p9 := rp hi h.p9, p10 := rp hi h.p10, p11 := rp hi h.p11, p12 := rp hi h.p12, p13 := rp hi h.p13 }⟩
        · have hi : 5 < d.size := by omega
          have e3 := h.p3 (hpre _ rfl ⟨3, .data⟩ (by simp) rfl)
          have e4 := h.p4 (hpre _ rfl ⟨4, .data⟩ (by simp) rfl)
          have hx1 : 0 ≤ (k : Int) + 1 ∧ (k : Int) < (L.length : Int) := by omega
          have hx0 : (k : Int) < (L.length : Int) := by omega
          have hx3 : k < L.length := by omega
          have hx4 : (0 : Int) ≤ (k : Int) + 1 := by omega
          have hx2 : ((k : Int) + 1).toNat = k + 1 := by omega
          refine wpOp_guard rfl (wanted_of (d := 17) rfl rfl (h.p2 (hpre _ rfl ⟨2, .guard⟩ (by simp) rfl))) ?_
          go_simp
          exact ⟨_, rfl, { bel := h.bel, siz := (by simpa using h.siz), kp := rk h.kp, k0 := rs h.k0, k7 := rs h.k7, p0 := rp hi h.p0, p1 := rp hi h.p1, p2 := rp hi h.p2, p3 := rp hi h.p3, p4 := rp hi h.p4, p5 := fun _ => set_same (by have := h.siz; omega), p6 := rp hi h.p6, p7 := rp hi h.p7, p8 := rp hi h.p8, p9 := rp hi h.p9, p10 := rp hi h.p10, p11 := rp hi h.p11, p12 := rp hi h.p12, p13 := rp hi h.p13 }⟩
        · have hi : 6 < d.size := by omega
          have e5 := h.p5 (hpre _ rfl ⟨5, .data⟩ (by simp) rfl)
          obtain ⟨y0, y1, z0, z1⟩ := CL.out wc h.bel
          refine wpOp_guard rfl (wanted_of (d := 17) rfl rfl (h.p2 (hpre _ rfl ⟨2, .guard⟩ (by simp) rfl))) ?_
          go_simp
          exact ⟨_, rfl, { bel := h.bel, siz := (by simpa using h.siz), kp := rk h.kp, k0 := rs h.k0, k7 := rs h.k7, p0 := rp hi h.p0, p1 := rp hi h.p1, p2 := rp hi h.p2, p3 := rp hi h.p3, p4 := rp hi h.p4, p5 := rp hi h.p5, p6 := fun _ => set_same (by have := h.siz; omega), p7 := rp hi h.p7, p8 := rp hi h.p8, p9 := rp hi h.p9, p10 := rp hi h.p10, p11 := rp hi h.p11, p12 := rp hi h.p12, p13 := rp hi h.p13 }⟩
        · have hi : 7 < d.size := by omega
          have q0 := h.k0
          refine wpOp_guard rfl (wanted_of (d := 17) rfl rfl (h.p2 (hpre _ rfl ⟨2, .guard⟩ (by simp) rfl))) ?_
          go_simp
          exact ⟨_, rfl, { bel := h.bel, siz := (by simpa using h.siz), kp := rk h.kp, k0 := rs h.k0, k7 := rs h.k7, p0 := rp hi h.p0, p1 := rp hi h.p1, p2 := rp hi h.p2, p3 := rp hi h.p3, p4 := rp hi h.p4, p5 := rp hi h.p5, p6 := rp hi h.p6, p7 := fun _ => set_same (by have := h.siz; omega), p8 := rp hi h.p8, p9 := rp hi h.p9, p10 := rp hi h.p10, p11 := rp hi h.p11, p12 := rp hi h.p12, p13 := rp hi h.p13 }⟩
        · have hi : 8 < d.size := by omega
          have q7 := h.k7
          refine wpOp_guard rfl (wanted_of (d := 17) rfl rfl (h.p2 (hpre _ rfl ⟨2, .guard⟩ (by simp) rfl))) ?_
          go_simp
          exact ⟨_, rfl, { bel := h.bel, siz := (by simpa using h.siz), kp := rk h.kp, k0 := rs h.k0, k7 := rs h.k7, p0 := rp hi h.p0, p1 := rp hi h.p1, p2 := rp hi h.p2, p3 := rp hi h.p3, p4 := rp hi h.p4, p5 := rp hi h.p5, p6 := rp hi h.p6, p7 := rp hi h.p7, p8 := fun _ => set_same (by have := h.siz; omega), p9 := rp hi h.p9, p10 := rp hi h.p10, p11 := rp hi h.p11, p12 := rp hi h.p12, p13 := rp hi h.p13 }⟩
        · have hi : 9 < d.size := by omega
          have e8 := h.p8 (hpre _ rfl ⟨8, .data⟩ (by simp) rfl)
          refine wpOp_guard rfl (wanted_of (d := 17) rfl rfl (h.p2 (hpre _ rfl ⟨2, .guard⟩ (by simp) rfl))) ?_
          go_simp
          simp (disch := omega) only [IntWalk.i64_in]
          exact ⟨_, rfl, { bel := h.bel, siz := (by simpa using h.siz), kp := rk h.kp, k0 := rs h.k0, k7 := rs h.k7, p0 := rp hi h.p0, p1 := rp hi h.p1, p2 := rp hi h.p2, p3 := rp hi h.p3, p4 := rp hi h.p4, p5 := rp hi h.p5, p6 := rp hi h.p6, p7 := rp hi h.p7, p8 := rp hi h.p8, p9 := fun _ => set_same (by have := h.siz; omega), p10 := rp hi h.p10, p11 := rp hi h.p11, p12 := rp hi h.p12, p13 := rp hi h.p13 }⟩
        · have hi : 10 < d.size := by omega
          have e7 := h.p7 (hpre _ rfl ⟨7, .data⟩ (by simp) rfl)
          have e9 := h.p9 (hpre _ rfl ⟨9, .data⟩ (by simp) rfl)
          have hx1 : (k : Int) < (L.length : Int) + 1 := by omega
          refine wpOp_guard rfl (wanted_of (d := 17) rfl rfl (h.p2 (hpre _ rfl ⟨2, .guard⟩ (by simp) rfl))) ?_
          go_simp
          exact ⟨_, rfl, { bel := h.bel, siz := (by simpa using h.siz), kp := rk h.kp, k0 := rs h.k0, k7 := rs h.k7, p0 := rp hi h.p0, p1 := rp hi h.p1, p2 := rp hi h.p2, p3 := rp hi h.p3, p4 := rp hi h.p4, p5 := rp hi h.p5, p6 := rp hi h.p6, p7 := rp hi h.p7, p8 := rp hi h.p8, p9 := rp hi h.p9, p10 := fun _ => set_same (by have := h.siz; omega), p11 := rp hi h.p11, p12 := rp hi h.p12, p13 := rp hi h.p13 }⟩
        · have hi : 11 < d.size := by omega
          have e10 := h.p10 (hpre _ rfl ⟨10, .data⟩ (by simp) rfl)
          obtain ⟨y0, y1, z0, z1⟩ := CL.out wc h.bel
          refine wpOp_guard rfl (wanted_of (d := 17) rfl rfl (h.p2 (hpre _ rfl ⟨2, .guard⟩ (by simp) rfl))) ?_
          go_simp
          exact ⟨_, rfl, { bel := h.bel, siz := (by simpa using h.siz), kp := rk h.kp, k0 := rs h.k0, k7 := rs h.k7, p0 := rp hi h.p0, p1 := rp hi h.p1, p2 := rp hi h.p2, p3 := rp hi h.p3, p4 := rp hi h.p4, p5 := rp hi h.p5, p6 := rp hi h.p6, p7 := rp hi h.p7, p8 := rp hi h.p8, p9 := rp hi h.p9, p10 := rp hi h.p10, p11 := fun _ => set_same (by have := h.siz; omega), p12 := rp hi h.p12, p13 := rp hi h.p13 }⟩
        · have hi : 12 < d.size := by omega
          have e6 := h.p6 (hpre _ rfl ⟨6, .data⟩ (by simp) rfl)
          have e11 := h.p11 (hpre _ rfl ⟨11, .data⟩ (by simp) rfl)
          refine wpOp_guard rfl (wanted_of (d := 17) rfl rfl (h.p2 (hpre _ rfl ⟨2, .guard⟩ (by simp) rfl))) ?_
          go_simp
          refine (HRB.out wc h.bel).mono ?_
          rintro e1 w1 ⟨rfl, hb⟩
          exact ⟨_, rfl, { bel := h.bel.trans (hb.mono h.bel.size), siz := (by simpa using h.siz), kp := rk h.kp, k0 := rs h.k0, k7 := rs h.k7, p0 := rp hi h.p0, p1 := rp hi h.p1, p2 := rp hi h.p2, p3 := rp hi h.p3, p4 := rp hi h.p4, p5 := rp hi h.p5, p6 := rp hi h.p6, p7 := rp hi h.p7, p8 := rp hi h.p8, p9 := rp hi h.p9, p10 := rp hi h.p10, p11 := rp hi h.p11, p12 := fun _ => set_same (by have := h.siz; omega), p13 := rp hi h.p13 }⟩
        · have hi : 13 < d.size := by omega
          have e2 := h.p2 (hpre _ rfl ⟨2, .data⟩ (by simp) rfl)
          have e12 := h.p12 (hpre _ rfl ⟨12, .data⟩ (by simp) rfl)
          refine wpOp_plain rfl rfl ?_
          go_simp
          exact ⟨_, rfl, { bel := h.bel, siz := (by simpa using h.siz), kp := rk h.kp, k0 := rs h.k0, k7 := rs h.k7, p0 := rp hi h.p0, p1 := rp hi h.p1, p2 := rp hi h.p2, p3 := rp hi h.p3, p4 := rp hi h.p4, p5 := rp hi h.p5, p6 := rp hi h.p6, p7 := rp hi h.p7, p8 := rp hi h.p8, p9 := rp hi h.p9, p10 := rp hi h.p10, p11 := rp hi h.p11, p12 := rp hi h.p12, p13 := fun _ => set_same (by have := h.siz; omega) }⟩
      case genda =>
        intro d a wc hd hI hall
        obtain ⟨t, rfl, h⟩ := hI
        have hdn : ∀ j, j < 14 → dn d j := fun j hj => dn_all hd hall hj
        have hd : ∀ j, (_ : j < 14 := by decide) → dn d j := fun j hj => hdn j hj
        have hfe := frame_eq [(15, _), (16, _), (17, _), (18, _), (19, _), (20, _), (21, _), (22, _), (23, _), (24, _), (25, _), (26, _), (27, _), (28, _)] (h.siz.trans rfl) h.kp rfl ⟨h.p0 (hd 0), h.p1 (hd 1), h.p2 (hd 2), h.p3 (hd 3), h.p4 (hd 4), h.p5 (hd 5), h.p6 (hd 6), h.p7 (hd 7), h.p8 (hd 8), h.p9 (hd 9), h.p10 (hd 10), h.p11 (hd 11), h.p12 (hd 12), h.p13 (hd 13), trivial⟩
        simp only [List.foldl_cons, List.foldl_nil, List.setIfInBounds_toArray, List.set_cons_succ, List.set_cons_zero] at hfe
        have hbc := h.bel
        subst hfe
        clear h hdn hd hall
        rename World => wk
        have HRK := Lib.hid (HR.out.below hbc)
        have HGK : Hid (w8.grownBy wk (some gb)) := Lib.hid (grown_after HG.out (grown_of_below (row := some gb) hbc) (.inl rfl))
        have hsk := hbc.size
        obtain ⟨y0, y1, z0, z1⟩ := CL.out wk hbc
        clear hbc CL HRB
        cases hrb : Lx.rb c m
        · have HRBM := Lib.hid hrb
          clear hrb
          by_cases hmost : most < L.length + 1
          · have hmI : (most : Int) < (L.length : Int) + 1 := by omega
            have hmc : (most : Int) ≤ (c8 : Int) := by omega
            go_wp2_with fail
            go_ret
            exact FIN.out (k + 1) cur wk (by omega) HRK.out HGK.out HUP.out (fun k' m' h hm' => by cases h; rw [HMK.out] at hm'; cases hm'; exact HRBM.out) most (by omega)
          · have hmI : ¬ (most : Int) < (L.length : Int) + 1 := by omega
            go_wp2_with fail
            go_ret
            exact FIN.out (k + 1) cur wk (by omega) HRK.out HGK.out HUP.out (fun k' m' h hm' => by cases h; rw [HMK.out] at hm'; cases hm'; exact HRBM.out) (L.length + 1) (by omega)
        · have HRBM := Lib.hid hrb
          clear hrb
          have hblk := HRK.out.blk
          have CG : Hid (∀ W : World, W.heap = wk.heap → W.cell? ⟨gb, (k + 1) * 2, none⟩ = some (.slice Ac nc cc0) ∧ W.cell? ⟨gb, (k + 1) * 2 + 1, none⟩ = some (.int .i64 c.2) ∧ W.cell? ⟨gb, k * 2, none⟩ = some (.slice Al nl cl0) ∧ W.cell? ⟨gb, k * 2 + 1, none⟩ = some (.int .i64 m.2) ∧ ∀ o, W.frozen? ⟨gb, o, none⟩ = false) := Lib.hid fun W hW => by
            refine ⟨?_, ?_, ?_, ?_, fun o => ?_⟩
            · unfold World.cell? at y0 ⊢; rw [hW]; exact y0
            · unfold World.cell? at y1 ⊢; rw [hW]; exact y1
            · unfold World.cell? at z0 ⊢; rw [hW]; exact z0
            · unfold World.cell? at z1 ⊢; rw [hW]; exact z1
            · unfold World.frozen?; rw [hW, hblk]; simp
          have CH : Hid (∀ W : World, W.heap = ((wk.setCell ⟨gb, (k + 1) * 2, none⟩ (.slice Al nl cl0)).setCell ⟨gb, (k + 1) * 2 + 1, none⟩ (.int .i64 m.2)).heap → W.cell? ⟨gb, k * 2, none⟩ = some (.slice Al nl cl0) ∧ W.cell? ⟨gb, k * 2 + 1, none⟩ = some (.int .i64 m.2) ∧ W.frozen? ⟨gb, k * 2, none⟩ = false ∧ W.frozen? ⟨gb, k * 2 + 1, none⟩ = false) := Lib.hid fun W hW => by
            have hz0 : cur[k * 2]? = some (.slice Al nl cl0) := by have := HE0.out; rwa [Nat.mul_comm] at this
            have hz1 : cur[k * 2 + 1]? = some (.int .i64 m.2) := by have h := z1; simp only [World.cell?, hblk] at h; simpa using h
            have hb : W.heap[gb]? = some (.cells ((cur.setIfInBounds ((k + 1) * 2) (.slice Al nl cl0)).setIfInBounds ((k + 1) * 2 + 1) (.int .i64 m.2)) 51 (0, 0)) := by rw [hW]; simp [World.setCell, Array.getElem?_modify, hblk]
            refine ⟨?_, ?_, ?_, ?_⟩
            · simp only [World.cell?, hb]; rw [set_other (by omega), set_other (by omega), hz0]; rfl
            · simp only [World.cell?, hb]; rw [set_other (by omega), set_other (by omega), hz1]; rfl
            · simp [World.frozen?, hb]
            · simp [World.frozen?, hb]
          clear y0 y1 z0 z1 hblk
          go_upto_region 5 with fail
          refine wp_region_inv2T (fun T0 => RqI T0 wk gb gb (L.length + 1) c8 k (.slice Ac nc cc0) (.slice Al nl cl0) c.2 m.2) (by kernel_rfl) (by kernel_rfl) ?g0b ?gstepb ?gendb
          case g0b =>
            have hno : ∀ j, ¬ dn (Array.replicate 18 false) j := by
              intro j; unfold dn; by_cases hj : j < 18 <;> simp [Array.getD, hj]
            have na : ∀ {j : Nat} {Z : Prop}, dn (Array.replicate 18 false) j → Z := fun hj => absurd hj (hno _)
            exact ⟨_, rfl, { bel := (Below.refl _ _).drew, siz := rfl, kp := fun _ _ => rfl, k0 := rfl, k7 := rfl, p0 := na, p1 := na, p2 := na, p3 := na, p4 := na, p5 := na, p6 := na, p7 := na, p8 := na, p9 := na, p10 := na, p11 := na, p12 := na, p13 := na, p14 := na, p16 := na, l15 := fun hj => absurd hj (hno _), l17 := fun hj => absurd hj (hno _), hp := fun _ => rfl, q15 := fun hj => absurd hj (hno _), q17 := fun hj => absurd hj (hno _) }⟩
          case gstepb =>
            intro T0 d a wc i hd hI hi
            obtain ⟨hlt, hnd, hpre⟩ := mem_ready hi
            have hd' : d.size = 18 := hd
            have hin : i < 18 := hlt
            clear hi hd hlt
            obtain ⟨t, rfl, h⟩ := hI
            have hcs : i = 0 ∨ i = 1 ∨ i = 2 ∨ i = 3 ∨ i = 4 ∨ i = 5 ∨ i = 6 ∨ i = 7 ∨ i = 8 ∨ i = 9 ∨ i = 10 ∨ i = 11 ∨ i = 12 ∨ i = 13 ∨ i = 14 ∨ i = 15 ∨ i = 16 ∨ i = 17 := by omega
            rcases hcs with rfl | rfl | rfl | rfl | rfl | rfl | rfl | rfl | rfl | rfl | rfl | rfl | rfl | rfl | rfl | rfl | rfl | rfl
            · have hi : 0 < d.size := by omega
              have q0 := h.k0
              refine wpOp_plain rfl rfl ?_
              go_simp
              exact ⟨_, rfl, { bel := h.bel, siz := (by simpa using h.siz), kp := rk h.kp, k0 := rs h.k0, k7 := rs h.k7, l15 := fun hj => (fun q => ⟨dn_up q.1, dn_up q.2⟩) (h.l15 (dn_of hi hj (by decide))), l17 := fun hj => dn_up (h.l17 (dn_of hi hj (by decide))), hp := fun hk => h.hp (fun q => hk (dn_up q)), q15 := fun hj hk => h.q15 (dn_of hi hj (by decide)) (fun q => hk (dn_up q)), q17 := fun hj => h.q17 (dn_of hi hj (by decide)), p0 := fun _ => set_same (by have := h.siz; omega), p1 := rp hi h.p1, p2 := rp hi h.p2, p3 := rp hi h.p3, p4 := rp hi h.p4, p5 := rp hi h.p5, p6 := rp hi h.p6, p7 := rp hi h.p7, p8 := rp hi h.p8, p9 := rp hi h.p9, p10 := rp hi h.p10, p11 := rp hi h.p11, p12 := rp hi h.p12, p13 := rp hi h.p13, p14 := rp hi h.p14, p16 := rp hi h.p16 }⟩
            · have hi : 1 < d.size := by omega
              have q7 := h.k7
              refine wpOp_plain rfl rfl ?_
              go_simp
              exact ⟨_, rfl, { bel := h.bel, siz := (by simpa using h.siz), kp := rk h.kp, k0 := rs h.k0, k7 := rs h.k7, l15 := fun hj => (fun q => ⟨dn_up q.1, dn_up q.2⟩) (h.l15 (dn_of hi hj (by decide))), l17 := fun hj => dn_up (h.l17 (dn_of hi hj (by decide))), hp := fun hk => h.hp (fun q => hk (dn_up q)), q15 := fun hj hk => h.q15 (dn_of hi hj (by decide)) (fun q => hk (dn_up q)), q17 := fun hj => h.q17 (dn_of hi hj (by decide)), p0 := rp hi h.p0, p1 := fun _ => set_same (by have := h.siz; omega), p2 := rp hi h.p2, p3 := rp hi h.p3, p4 := rp hi h.p4, p5 := rp hi h.p5, p6 := rp hi h.p6, p7 := rp hi h.p7, p8 := rp hi h.p8, p9 := rp hi h.p9, p10 := rp hi h.p10, p11 := rp hi h.p11, p12 := rp hi h.p12, p13 := rp hi h.p13, p14 := rp hi h.p14, p16 := rp hi h.p16 }⟩
            · have hi : 2 < d.size := by omega
              have q0 := h.k0
              refine wpOp_plain rfl rfl ?_
              go_simp
              exact ⟨_, rfl, { bel := h.bel, siz := (by simpa using h.siz), kp := rk h.kp, k0 := rs h.k0, k7 := rs h.k7, l15 := fun hj => (fun q => ⟨dn_up q.1, dn_up q.2⟩) (h.l15 (dn_of hi hj (by decide))), l17 := fun hj => dn_up (h.l17 (dn_of hi hj (by decide))), hp := fun hk => h.hp (fun q => hk (dn_up q)), q15 := fun hj hk => h.q15 (dn_of hi hj (by decide)) (fun q => hk (dn_up q)), q17 := fun hj => h.q17 (dn_of hi hj (by decide)), p0 := rp hi h.p0, p1 := rp hi h.p1, p2 := fun _ => set_same (by have := h.siz; omega), p3 := rp hi h.p3, p4 := rp hi h.p4, p5 := rp hi h.p5, p6 := rp hi h.p6, p7 := rp hi h.p7, p8 := rp hi h.p8, p9 := rp hi h.p9, p10 := rp hi h.p10, p11 := rp hi h.p11, p12 := rp hi h.p12, p13 := rp hi h.p13, p14 := rp hi h.p14, p16 := rp hi h.p16 }⟩
            · have hi : 3 < d.size := by omega
              have q7 := h.k7
              refine wpOp_plain rfl rfl ?_
              go_simp
              exact ⟨_, rfl, { bel := h.bel, siz := (by simpa using h.siz), kp := rk h.kp, k0 := rs h.k0, k7 := rs h.k7, l15 := fun hj => (fun q => ⟨dn_up q.1, dn_up q.2⟩) (h.l15 (dn_of hi hj (by decide))), l17 := fun hj => dn_up (h.l17 (dn_of hi hj (by decide))), hp := fun hk => h.hp (fun q => hk (dn_up q)), q15 := fun hj hk => h.q15 (dn_of hi hj (by decide)) (fun q => hk (dn_up q)), q17 := fun hj => h.q17 (dn_of hi hj (by decide)), p0 := rp hi h.p0, p1 := rp hi h.p1, p2 := rp hi h.p2, p3 := fun _ => set_same (by have := h.siz; omega), p4 := rp hi h.p4, p5 := rp hi h.p5, p6 := rp hi h.p6, p7 := rp hi h.p7, p8 := rp hi h.p8, p9 := rp hi h.p9, p10 := rp hi h.p10, p11 := rp hi h.p11, p12 := rp hi h.p12, p13 := rp hi h.p13, p14 := rp hi h.p14, p16 := rp hi h.p16 }⟩
            · have hi : 4 < d.size := by omega
              have e3 := h.p3 (hpre _ rfl ⟨3, .data⟩ (by simp) rfl)
              refine wpOp_plain rfl rfl ?_
              go_simp
              simp (disch := omega) only [IntWalk.i64_in]
              exact ⟨_, rfl, { bel := h.bel, siz := (by simpa using h.siz), kp := rk h.kp, k0 := rs h.k0, k7 := rs h.k7, l15 := fun hj => (fun q => ⟨dn_up q.1, dn_up q.2⟩) (h.l15 (dn_of hi hj (by decide))), l17 := fun hj => dn_up (h.l17 (dn_of hi hj (by decide))), hp := fun hk => h.hp (fun q => hk (dn_up q)), q15 := fun hj hk => h.q15 (dn_of hi hj (by decide)) (fun q => hk (dn_up q)), q17 := fun hj => h.q17 (dn_of hi hj (by decide)), p0 := rp hi h.p0, p1 := rp hi h.p1, p2 := rp hi h.p2, p3 := rp hi h.p3, p4 := fun _ => set_same (by have := h.siz; omega), p5 := rp hi h.p5, p6 := rp hi h.p6, p7 := rp hi h.p7, p8 := rp hi h.p8, p9 := rp hi h.p9, p10 := rp hi h.p10, p11 := rp hi h.p11, p12 := rp hi h.p12, p13 := rp hi h.p13, p14 := rp hi h.p14, p16 := rp hi h.p16 }⟩
            · have hi : 5 < d.size := by omega
              have q0 := h.k0
              refine wpOp_plain rfl rfl ?_
              go_simp
              exact ⟨_, rfl, { bel := h.bel, siz := (by simpa using h.siz), kp := rk h.kp, k0 := rs h.k0, k7 := rs h.k7, l15 := fun hj => (fun q => ⟨dn_up q.1, dn_up q.2⟩) (h.l15 (dn_of hi hj (by decide))), l17 := fun hj => dn_up (h.l17 (dn_of hi hj (by decide))), hp := fun hk => h.hp (fun q => hk (dn_up q)), q15 := fun hj hk => h.q15 (dn_of hi hj (by decide)) (fun q => hk (dn_up q)), q17 := fun hj => h.q17 (dn_of hi hj (by decide)), p0 := rp hi h.p0, p1 := rp hi h.p1, p2 := rp hi h.p2, p3 := rp hi h.p3, p4 := rp hi h.p4, p5 := fun _ => set_same (by have := h.siz; omega), p6 := rp hi h.p6, p7 := rp hi h.p7, p8 := rp hi h.p8, p9 := rp hi h.p9, p10 := rp hi h.p10, p11 := rp hi h.p11, p12 := rp hi h.p12, p13 := rp hi h.p13, p14 := rp hi h.p14, p16 := rp hi h.p16 }⟩
            · have hi : 6 < d.size := by omega
              have q7 := h.k7
              refine wpOp_plain rfl rfl ?_
              go_simp
              exact ⟨_, rfl, { bel := h.bel, siz := (by simpa using h.siz), kp := rk h.kp, k0 := rs h.k0, k7 := rs h.k7, l15 := fun hj => (fun q => ⟨dn_up q.1, dn_up q.2⟩) (h.l15 (dn_of hi hj (by decide))), l17 := fun hj => dn_up (h.l17 (dn_of hi hj (by decide))), hp := fun hk => h.hp (fun q => hk (dn_up q)), q15 := fun hj hk => h.q15 (dn_of hi hj (by decide)) (fun q => hk (dn_up q)), q17 := fun hj => h.q17 (dn_of hi hj (by decide)), p0 := rp hi h.p0, p1 := rp hi h.p1, p2 := rp hi h.p2, p3 := rp hi h.p3, p4 := rp hi h.p4, p5 := rp hi h.p5, p6 := fun _ => set_same (by have := h.siz; omega), p7 := rp hi h.p7, p8 := rp hi h.p8, p9 := rp hi h.p9, p10 := rp hi h.p10, p11 := rp hi h.p11, p12 := rp hi h.p12, p13 := rp hi h.p13, p14 := rp hi h.p14, p16 := rp hi h.p16 }⟩
            · have hi : 7 < d.size := by omega
              have e6 := h.p6 (hpre _ rfl ⟨6, .data⟩ (by simp) rfl)
              refine wpOp_plain rfl rfl ?_
              go_simp
              simp (disch := omega) only [IntWalk.i64_in]
              exact ⟨_, rfl, { bel := h.bel, siz := (by simpa using h.siz), kp := rk h.kp, k0 := rs h.k0, k7 := rs h.k7, l15 := fun hj => (fun q => ⟨dn_up q.1, dn_up q.2⟩) (h.l15 (dn_of hi hj (by decide))), l17 := fun hj => dn_up (h.l17 (dn_of hi hj (by decide))), hp := fun hk => h.hp (fun q => hk (dn_up q)), q15 := fun hj hk => h.q15 (dn_of hi hj (by decide)) (fun q => hk (dn_up q)), q17 := fun hj => h.q17 (dn_of hi hj (by decide)), p0 := rp hi h.p0, p1 := rp hi h.p1, p2 := rp hi h.p2, p3 := rp hi h.p3, p4 := rp hi h.p4, p5 := rp hi h.p5, p6 := rp hi h.p6, p7 := fun _ => set_same (by have := h.siz; omega), p8 := rp hi h.p8, p9 := rp hi h.p9, p10 := rp hi h.p10, p11 := rp hi h.p11, p12 := rp hi h.p12, p13 := rp hi h.p13, p14 := rp hi h.p14, p16 := rp hi h.p16 }⟩
            · have hi : 8 < d.size := by omega
              have e5 := h.p5 (hpre _ rfl ⟨5, .data⟩ (by simp) rfl)
              have e7 := h.p7 (hpre _ rfl ⟨7, .data⟩ (by simp) rfl)
              have hx1 : (k : Int) < (L.length : Int) + 1 := by omega
              refine wpOp_plain rfl rfl ?_
              go_simp
              exact ⟨_, rfl, { bel := h.bel, siz := (by simpa using h.siz), kp := rk h.kp, k0 := rs h.k0, k7 := rs h.k7, l15 := fun hj => (fun q => ⟨dn_up q.1, dn_up q.2⟩) (h.l15 (dn_of hi hj (by decide))), l17 := fun hj => dn_up (h.l17 (dn_of hi hj (by decide))), hp := fun hk => h.hp (fun q => hk (dn_up q)), q15 := fun hj hk => h.q15 (dn_of hi hj (by decide)) (fun q => hk (dn_up q)), q17 := fun hj => h.q17 (dn_of hi hj (by decide)), p0 := rp hi h.p0, p1 := rp hi h.p1, p2 := rp hi h.p2, p3 := rp hi h.p3, p4 := rp hi h.p4, p5 := rp hi h.p5, p6 := rp hi h.p6, p7 := rp hi h.p7, p8 := fun _ => set_same (by have := h.siz; omega), p9 := rp hi h.p9, p10 := rp hi h.p10, p11 := rp hi h.p11, p12 := rp hi h.p12, p13 := rp hi h.p13, p14 := rp hi h.p14, p16 := rp hi h.p16 }⟩
            · have hi : 9 < d.size := by omega
              have e8 := h.p8 (hpre _ rfl ⟨8, .data⟩ (by simp) rfl)
              have hns : ¬ dn d 15 := fun q => not_dn hi hnd (h.l15 q).1
              obtain ⟨ca, cb, cc, cd, zf⟩ := CG.out wc (h.hp hns)
              refine wpOp_plain rfl rfl ?_
              go_simp
              exact ⟨_, rfl, { bel := h.bel, siz := (by simpa using h.siz), kp := rk h.kp, k0 := rs h.k0, k7 := rs h.k7, l15 := fun hj => absurd (h.l15 (dn_of hi hj (by decide))).1 (not_dn hi hnd), l17 := fun hj => dn_up (h.l17 (dn_of hi hj (by decide))), hp := fun hk => h.hp (fun q => hk (dn_up q)), q15 := fun hj hk => h.q15 (dn_of hi hj (by decide)) (fun q => hk (dn_up q)), q17 := fun hj => h.q17 (dn_of hi hj (by decide)), p0 := rp hi h.p0, p1 := rp hi h.p1, p2 := rp hi h.p2, p3 := rp hi h.p3, p4 := rp hi h.p4, p5 := rp hi h.p5, p6 := rp hi h.p6, p7 := rp hi h.p7, p8 := rp hi h.p8, p9 := fun _ => set_same (by have := h.siz; omega), p10 := rp hi h.p10, p11 := rp hi h.p11, p12 := rp hi h.p12, p13 := rp hi h.p13, p14 := rp hi h.p14, p16 := rp hi h.p16 }⟩
            · have hi : 10 < d.size := by omega
              have q0 := h.k0
              refine wpOp_plain rfl rfl ?_
              go_simp
              exact ⟨_, rfl, { bel := h.bel, siz := (by simpa using h.siz), kp := rk h.kp, k0 := rs h.k0, k7 := rs h.k7, l15 := fun hj => (fun q => ⟨dn_up q.1, dn_up q.2⟩) (h.l15 (dn_of hi hj (by decide))), l17 := fun hj => dn_up (h.l17 (dn_of hi hj (by decide))), hp := fun hk => h.hp (fun q => hk (dn_up q)), q15 := fun hj hk => h.q15 (dn_of hi hj (by decide)) (fun q => hk (dn_up q)), q17 := fun hj => h.q17 (dn_of hi hj (by decide)), p0 := rp hi h.p0, p1 := rp hi h.p1, p2 := rp hi h.p2, p3 := rp hi h.p3, p4 := rp hi h.p4, p5 := rp hi h.p5, p6 := rp hi h.p6, p7 := rp hi h.p7, p8 := rp hi h.p8, p9 := rp hi h.p9, p10 := fun _ => set_same (by have := h.siz; omega), p11 := rp hi h.p11, p12 := rp hi h.p12, p13 := rp hi h.p13, p14 := rp hi h.p14, p16 := rp hi h.p16 }⟩
            · have hi : 11 < d.size := by omega
              have q7 := h.k7
              refine wpOp_plain rfl rfl ?_
              go_simp
              exact ⟨_, rfl, { bel := h.bel, siz := (by simpa using h.siz), kp := rk h.kp, k0 := rs h.k0, k7 := rs h.k7, l15 := fun hj => (fun q => ⟨dn_up q.1, dn_up q.2⟩) (h.l15 (dn_of hi hj (by decide))), l17 := fun hj => dn_up (h.l17 (dn_of hi hj (by decide))), hp := fun hk => h.hp (fun q => hk (dn_up q)), q15 := fun hj hk => h.q15 (dn_of hi hj (by decide)) (fun q => hk (dn_up q)), q17 := fun hj => h.q17 (dn_of hi hj (by decide)), p0 := rp hi h.p0, p1 := rp hi h.p1, p2 := rp hi h.p2, p3 := rp hi h.p3, p4 := rp hi h.p4, p5 := rp hi h.p5, p6 := rp hi h.p6, p7 := rp hi h.p7, p8 := rp hi h.p8, p9 := rp hi h.p9, p10 := rp hi h.p10, p11 := fun _ => set_same (by have := h.siz; omega), p12 := rp hi h.p12, p13 := rp hi h.p13, p14 := rp hi h.p14, p16 := rp hi h.p16 }⟩
            · have hi : 12 < d.size := by omega
              have e10 := h.p10 (hpre _ rfl ⟨10, .data⟩ (by simp) rfl)
              have e11 := h.p11 (hpre _ rfl ⟨11, .data⟩ (by simp) rfl)
              have hx1 : 0 ≤ (k : Int) + 1 ∧ (k : Int) < (L.length : Int) := by omega
              have hx0 : (k : Int) < (L.length : Int) := by omega
              have hx3 : k < L.length := by omega
              have hx4 : (0 : Int) ≤ (k : Int) + 1 := by omega
              have hx2 : ((k : Int) + 1).toNat = k + 1 := by omega
              refine wpOp_plain rfl rfl ?_
              go_simp
              exact ⟨_, rfl, { bel := h.bel, siz := (by simpa using h.siz), kp := rk h.kp, k0 := rs h.k0, k7 := rs h.k7, l15 := fun hj => (fun q => ⟨dn_up q.1, dn_up q.2⟩) (h.l15 (dn_of hi hj (by decide))), l17 := fun hj => dn_up (h.l17 (dn_of hi hj (by decide))), hp := fun hk => h.hp (fun q => hk (dn_up q)), q15 := fun hj hk => h.q15 (dn_of hi hj (by decide)) (fun q => hk (dn_up q)), q17 := fun hj => h.q17 (dn_of hi hj (by decide)), p0 := rp hi h.p0, p1 := rp hi h.p1, p2 := rp hi h.p2, p3 := rp hi h.p3, p4 := rp hi h.p4, p5 := rp hi h.p5, p6 := rp hi h.p6, p7 := rp hi h.p7, p8 := rp hi h.p8, p9 := rp hi h.p9, p10 := rp hi h.p10, p11 := rp hi h.p11, p12 := fun _ => set_same (by have := h.siz; omega), p13 := rp hi h.p13, p14 := rp hi h.p14, p16 := rp hi h.p16 }⟩
            · have hi : 13 < d.size := by omega
              have e12 := h.p12 (hpre _ rfl ⟨12, .data⟩ (by simp) rfl)
              have hns : ¬ dn d 15 := fun q => not_dn hi hnd (h.l15 q).2
              obtain ⟨ca, cb, cc, cd, zf⟩ := CG.out wc (h.hp hns)
              refine wpOp_plain rfl rfl ?_
              go_simp
              exact ⟨_, rfl, { bel := h.bel, siz := (by simpa using h.siz), kp := rk h.kp, k0 := rs h.k0, k7 := rs h.k7, l15 := fun hj => absurd (h.l15 (dn_of hi hj (by decide))).2 (not_dn hi hnd), l17 := fun hj => dn_up (h.l17 (dn_of hi hj (by decide))), hp := fun hk => h.hp (fun q => hk (dn_up q)), q15 := fun hj hk => h.q15 (dn_of hi hj (by decide)) (fun q => hk (dn_up q)), q17 := fun hj => h.q17 (dn_of hi hj (by decide)), p0 := rp hi h.p0, p1 := rp hi h.p1, p2 := rp hi h.p2, p3 := rp hi h.p3, p4 := rp hi h.p4, p5 := rp hi h.p5, p6 := rp hi h.p6, p7 := rp hi h.p7, p8 := rp hi h.p8, p9 := rp hi h.p9, p10 := rp hi h.p10, p11 := rp hi h.p11, p12 := rp hi h.p12, p13 := fun _ => set_same (by have := h.siz; omega), p14 := rp hi h.p14, p16 := rp hi h.p16 }⟩
            · have hi : 14 < d.size := by omega
              have e0 := h.p0 (hpre _ rfl ⟨0, .data⟩ (by simp) rfl)
              have e1 := h.p1 (hpre _ rfl ⟨1, .data⟩ (by simp) rfl)
              have hx1 : 0 ≤ (k : Int) + 1 ∧ (k : Int) < (L.length : Int) := by omega
              have hx0 : (k : Int) < (L.length : Int) := by omega
              have hx3 : k < L.length := by omega
              have hx4 : (0 : Int) ≤ (k : Int) + 1 := by omega
              have hx2 : ((k : Int) + 1).toNat = k + 1 := by omega
              refine wpOp_plain rfl rfl ?_
              go_simp
              exact ⟨_, rfl, { bel := h.bel, siz := (by simpa using h.siz), kp := rk h.kp, k0 := rs h.k0, k7 := rs h.k7, l15 := fun hj => (fun q => ⟨dn_up q.1, dn_up q.2⟩) (h.l15 (dn_of hi hj (by decide))), l17 := fun hj => dn_up (h.l17 (dn_of hi hj (by decide))), hp := fun hk => h.hp (fun q => hk (dn_up q)), q15 := fun hj hk => h.q15 (dn_of hi hj (by decide)) (fun q => hk (dn_up q)), q17 := fun hj => h.q17 (dn_of hi hj (by decide)), p0 := rp hi h.p0, p1 := rp hi h.p1, p2 := rp hi h.p2, p3 := rp hi h.p3, p4 := rp hi h.p4, p5 := rp hi h.p5, p6 := rp hi h.p6, p7 := rp hi h.p7, p8 := rp hi h.p8, p9 := rp hi h.p9, p10 := rp hi h.p10, p11 := rp hi h.p11, p12 := rp hi h.p12, p13 := rp hi h.p13, p14 := fun _ => set_same (by have := h.siz; omega), p16 := rp hi h.p16 }⟩
            · have hi : 15 < d.size := by omega
              have hnd' := not_dn hi hnd
              have d9 : dn d 9 := hpre _ rfl ⟨9, .data⟩ (by simp) rfl
              have d14 : dn d 14 := hpre _ rfl ⟨14, .data⟩ (by simp) rfl
              have d13 : dn d 13 := hpre _ rfl ⟨13, .phase⟩ (by simp) rfl
              have e9 := h.p9 d9
              have e14 := h.p14 d14
              have hs0 := h.hp hnd'
              obtain ⟨ca, cb, cc, cd, zf⟩ := CG.out wc hs0
              have z0 := zf ((k + 1) * 2)
              have z1 := zf ((k + 1) * 2 + 1)
              refine wpOp_plain rfl rfl ?_
              go_simp
              exact ⟨_, rfl, { bel := (h.bel.setCell (Nat.le_refl _) _).setCell (Nat.le_refl _) _, siz := h.siz, kp := h.kp, k0 := h.k0, k7 := h.k7, l15 := fun _ => ⟨dn_up d9, dn_up d13⟩, l17 := fun hj => absurd (h.l17 (dn_of hi hj (by decide))) hnd', hp := fun hk => absurd (dn_self hi) hk, q15 := fun _ _ => by simp [World.setCell, hs0], q17 := fun hj => absurd (h.l17 (dn_of hi hj (by decide))) hnd', p0 := rn hi h.p0, p1 := rn hi h.p1, p2 := rn hi h.p2, p3 := rn hi h.p3, p4 := rn hi h.p4, p5 := rn hi h.p5, p6 := rn hi h.p6, p7 := rn hi h.p7, p8 := rn hi h.p8, p9 := rn hi h.p9, p10 := rn hi h.p10, p11 := rn hi h.p11, p12 := rn hi h.p12, p13 := rn hi h.p13, p14 := rn hi h.p14, p16 := rn hi h.p16 }⟩
            · have hi : 16 < d.size := by omega
              have e2 := h.p2 (hpre _ rfl ⟨2, .data⟩ (by simp) rfl)
              have e4 := h.p4 (hpre _ rfl ⟨4, .data⟩ (by simp) rfl)
              have hx1 : (k : Int) < (L.length : Int) + 1 := by omega
              refine wpOp_plain rfl rfl ?_
              go_simp
              exact ⟨_, rfl, { bel := h.bel, siz := (by simpa using h.siz), kp := rk h.kp, k0 := rs h.k0, k7 := rs h.k7, l15 := fun hj => (fun q => ⟨dn_up q.1, dn_up q.2⟩) (h.l15 (dn_of hi hj (by decide))), l17 := fun hj => dn_up (h.l17 (dn_of hi hj (by decide))), hp := fun hk => h.hp (fun q => hk (dn_up q)), q15 := fun hj hk => h.q15 (dn_of hi hj (by decide)) (fun q => hk (dn_up q)), q17 := fun hj => h.q17 (dn_of hi hj (by decide)), p0 := rp hi h.p0, p1 := rp hi h.p1, p2 := rp hi h.p2, p3 := rp hi h.p3, p4 := rp hi h.p4, p5 := rp hi h.p5, p6 := rp hi h.p6, p7 := rp hi h.p7, p8 := rp hi h.p8, p9 := rp hi h.p9, p10 := rp hi h.p10, p11 := rp hi h.p11, p12 := rp hi h.p12, p13 := rp hi h.p13, p14 := rp hi h.p14, p16 := fun _ => set_same (by have := h.siz; omega) }⟩
            · have hi : 17 < d.size := by omega
              have hnd' := not_dn hi hnd
              have d13 : dn d 13 := hpre _ rfl ⟨13, .data⟩ (by simp) rfl
              have d16 : dn d 16 := hpre _ rfl ⟨16, .data⟩ (by simp) rfl
              have d15 : dn d 15 := hpre _ rfl ⟨15, .chain⟩ (by simp) rfl
              have e13 := h.p13 d13
              have e16 := h.p16 d16
              have hs1 := h.q15 d15 hnd'
              obtain ⟨cc, cd, z0, z1⟩ := CH.out wc hs1
              refine wpOp_plain rfl rfl ?_
              go_simp
              exact ⟨_, rfl, { bel := (h.bel.setCell (Nat.le_refl _) _).setCell (Nat.le_refl _) _, siz := h.siz, kp := h.kp, k0 := h.k0, k7 := h.k7, l15 := fun hj => (fun q => ⟨dn_up q.1, dn_up q.2⟩) (h.l15 (dn_of hi hj (by decide))), l17 := fun _ => dn_up d15, hp := fun hk => absurd (dn_up d15) hk, q15 := fun _ hk => absurd (dn_self hi) hk, q17 := fun _ => by simp [World.setCell, hs1], p0 := rn hi h.p0, p1 := rn hi h.p1, p2 := rn hi h.p2, p3 := rn hi h.p3, p4 := rn hi h.p4, p5 := rn hi h.p5, p6 := rn hi h.p6, p7 := rn hi h.p7, p8 := rn hi h.p8, p9 := rn hi h.p9, p10 := rn hi h.p10, p11 := rn hi h.p11, p12 := rn hi h.p12, p13 := rn hi h.p13, p14 := rn hi h.p14, p16 := rn hi h.p16 }⟩
          case gendb =>
            intro d a wc hd hI hall
            obtain ⟨t, rfl, h⟩ := hI
            have hdn : ∀ j, j < 18 → dn d j := fun j hj => dn_all hd hall hj
            have hd : ∀ j, (_ : j < 18 := by decide) → dn d j := fun j hj => hdn j hj
            have hq := h.q17 (hdn 17 (by omega))
            have hfe := frame_eq [(31, _), (32, _), (33, _), (34, _), (35, _), (36, _), (37, _), (38, _), (39, _), (40, _), (41, _), (42, _), (43, _), (44, _), (45, _), (46, _)] (h.siz.trans rfl) h.kp rfl ⟨h.p0 (hd 0), h.p1 (hd 1), h.p2 (hd 2), h.p3 (hd 3), h.p4 (hd 4), h.p5 (hd 5), h.p6 (hd 6), h.p7 (hd 7), h.p8 (hd 8), h.p9 (hd 9), h.p10 (hd 10), h.p11 (hd 11), h.p12 (hd 12), h.p13 (hd 13), h.p14 (hd 14), h.p16 (hd 16), trivial⟩
            simp only [List.foldl_cons, List.foldl_nil, List.setIfInBounds_toArray, List.set_cons_succ, List.set_cons_zero] at hfe
            have hbc := h.bel
            subst hfe
            clear h hdn hd hall
            have hbc2 : wk.heap.size ≤ wc.heap.size := hbc.size
            have hblk := HRK.out.blk
            have hwb : wc.heap[gb]? = some (.cells ((((cur.setIfInBounds (2 * (k + 1)) (.slice Al nl cl0)).setIfInBounds (2 * (k + 1) + 1) (.int .i64 m.2)).setIfInBounds (2 * k) (.slice Ac nc cc0)).setIfInBounds (2 * k + 1) (.int .i64 c.2)) 51 (0, 0)) := by
              rw [hq, Nat.mul_comm (k + 1) 2, Nat.mul_comm k 2]; simp [World.setCell, Array.getElem?_modify, hblk]
            have hot : ∀ b, b ≠ gb → wc.heap[b]? = wk.heap[b]? := fun b hb => by rw [hq]; simp [World.setCell, Array.getElem?_modify, Ne.symm hb]
            have HROW2 := Lib.hid (HRK.out.swap HSW.out.1 HSW.out.2.1 HE0.out HG0.out hwb hbc2 (fun b _ hb => hot b hb))
            rw [HSW.out.2.2] at HROW2
            have HG9 : Hid (w8.grownBy wc (some gb)) := Lib.hid (grown_after HGK.out ⟨hbc.os, hbc.tape, hbc.output, hbc2, fun b _ hb => hot b (fun e => hb (by rw [e]))⟩ (.inl rfl))
            have HUP9 : Hid (∀ j y, k ≤ j → L[j]? = some y → Lx.rb c y = true) := Lib.hid fun j y hj hy => by
              rcases Nat.lt_or_eq_of_le hj with h | h
              · exact HUP.out j y h hy
              · subst h; rw [HMK.out] at hy; cases hy; exact HRBM.out
            clear hbc hq hwb hot hblk CG CH
            go_wp2_with fail
            go_roundg k
            case measure => have := HGM.out; omega
            case rel => exact ⟨k, _, by omega, rfl, by go_num, HROW2.out, HG9.out, HUP9.out⟩
end Go.Proofs.YtpmfjndbckblfaaDoor
