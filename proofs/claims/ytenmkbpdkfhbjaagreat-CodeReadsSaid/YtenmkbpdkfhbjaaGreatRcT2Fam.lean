/- ostraconref02.family: has a node the kids that it may have. Made by gen_t2fam.py. -/
import Derived.Test.YtenmkbpdkfhbjaaGreatRcT2Par
import Derived.Test.YtenmkbpdkfhbjaaGreatRcTxFam
namespace Tx
def kidBad (q k : Int) : Bool := (q == 4 && !(k == 1)) || ((q == 2 || q == 5 || q == 7) && k == 2) || (q == 3 && k == 3) || (q == 7 && k == 7)
def parBad (ns : List Node) (i : Nat) : Bool := match parV ns i with
  | some p => !(kd ns p == 5) || !((kidsV ns p).length == 1)
  | none => true
def famRB (ns : List Node) (i : Nat) : Bool :=
  decide (lowV (kd ns i) ≤ (kidsV ns i).length) && decide ((kidsV ns i).length ≤ highV (kd ns i)) && !(kd ns i == 5 && decide (0 < dp ns i)) && !(kd ns i == 7 && decide (0 < dp ns i) && parBad ns i) && (kidsV ns i).all fun k => !kidBad (kd ns i) (kd ns k)
theorem famRB_iff {ns : List Node} {i : Nat} : famRB ns i = true ↔ famR ns i := by
  unfold famRB famR
  simp only [Bool.and_eq_true, decide_eq_true_eq, List.all_eq_true]
  constructor
  · rintro ⟨⟨⟨⟨h1, h2⟩, h3⟩, h4⟩, h5⟩
    refine ⟨⟨h1, h2⟩, fun q => ?_, fun q r => ?_, fun k hk => ?_⟩
    · simp [q] at h3
      exact h3
    · simp [q, r] at h4
      unfold parBad at h4
      cases hp : parV ns i with
      | none => rw [hp] at h4; simp at h4
      | some p =>
        rw [hp] at h4
        simp at h4
        exact ⟨p, rfl, h4.1, h4.2⟩
    · have := h5 k hk
      unfold kidBad at this
      simp at this
      obtain ⟨⟨⟨t1, t2⟩, t3⟩, t4⟩ := this
      exact ⟨fun q => by omega, fun q => by omega, fun q => by omega, fun q => by omega⟩
  · rintro ⟨⟨h1, h2⟩, h3, h4, h5⟩
    refine ⟨⟨⟨⟨h1, h2⟩, ?_⟩, ?_⟩, fun k hk => ?_⟩
    · by_cases q : kd ns i = 5
      · have := h3 q
        simp [q]
        omega
      · simp [q]
    · by_cases q : kd ns i = 7
      · by_cases r : 0 < dp ns i
        · obtain ⟨p, e1, e2, e3⟩ := h4 q r
          unfold parBad
          rw [e1]
          simp [e2, e3]
        · simp [r]
      · simp [q]
    · obtain ⟨q1, q2, q3, q4⟩ := h5 k hk
      unfold kidBad
      simp
      refine ⟨⟨⟨?_, ?_⟩, ?_⟩, ?_⟩ <;> omega
theorem fam_all_ref {l : Sg.SList} {ns : List Node} (h : ∀ i, i < ns.length → ownAt l ns i = 0) : (List.range ns.length).all (famB ns) = (List.range ns.length).all (famRB ns) := by
  have h1 := check_ref h
  have h2 : (List.range ns.length).all (famRB ns) = true ↔ ∀ i, i < ns.length → famR ns i := by
    rw [List.all_eq_true]
    constructor
    · exact fun q i hi => famRB_iff.1 (q i (List.mem_range.2 hi))
    · exact fun q i hi => famRB_iff.2 (q i (List.mem_range.1 hi))
  rw [Bool.eq_iff_iff, h1, h2]
theorem all_take_succ {α : Type} {p : α → Bool} : ∀ {l : List α} {k : Nat} {x : α}, l[k]? = some x → (l.take (k + 1)).all p = ((l.take k).all p && p x)
  | [], k, x, h => by simp at h
  | y :: ys, 0, x, h => by
    simp at h
    subst h
    simp
  | y :: ys, k + 1, x, h => by
    rw [List.take_succ_cons, List.take_succ_cons, List.all_cons, List.all_cons, all_take_succ (by simpa using h), Bool.and_assoc]
theorem all_bad {α : Type} {p : α → Bool} {l : List α} {k : Nat} {x : α} (h : l[k]? = some x) (hb : p x = false) : l.all p = false := by
  rw [List.all_eq_false]
  exact ⟨x, List.mem_of_getElem? h, by simp [hb]⟩
end Tx
namespace Go.Proofs.YtenmkbpdkfhbjaaGreat
open Go Go.RowKit

theorem r2Kids_node (ns : List Tx.Node) (w : World) (A : Option Addr) (c i : Nat) (h : RdN w w.heap.size (.slice A ns.length c) ns) (hn : ns.length ≤ 1000000) (hi : i < ns.length) (hlo : -1000 ≤ Tx.dp ns i) (hhi : Tx.dp ns i ≤ 1000) :
    Calls Tryz.prog 51 #[.agg #[.slice A ns.length c], .int .i64 i] w (RetNs (Tx.kidsV ns i) w) := by
  rw [← Tx.placesV_kids]
  refine r2Kids_scan ns w A c i (Tx.dp ns i + 1) (i + 1) (Tx.endV ns i) h hn (.inr ⟨i, hi, rfl, rfl, rfl, hlo, hhi⟩) (by have := Tx.end_gt ns i; omega) (Tx.end_le hi) (fun j q1 q2 => by have := (Tx.end_in (by omega) q2).2; omega) ?_
  rcases Nat.lt_or_ge (Tx.endV ns i) ns.length with q | q
  · have := Tx.end_at q
    exact .inr (by omega)
  · have := Tx.end_le hi
    exact .inl (by omega)
theorem ints_cell {w : World} {B : Nat} {A : Option Addr} {n c : Nat} {xs : List Int} (h : RdS w B 1 encInt (.slice A n c) xs) {k : Nat} {x : Int} (hx : xs[k]? = some x) : ∃ b off, A = some ⟨b, off, none⟩ ∧ b < B ∧ w.cell? ⟨b, off + k, none⟩ = some (.int .i64 x) := by
  obtain ⟨A', c', e, _, _, hh⟩ := h
  have hlt := (List.getElem?_eq_some_iff.1 hx).1
  obtain ⟨b, off, e', hb, hc⟩ := hh (by omega)
  injection e with e1 e2 e3
  have := hc k x hx 0 _ rfl
  exact ⟨b, off, e1.trans e', hb, by simpa using this⟩
set_option maxRecDepth 100000 in
set_option maxHeartbeats 32000000 in
theorem r2fam_any (l : Sg.SList) (ns : List Tx.Node) (i : Nat) (w : World) (A : Option Addr) (c : Nat) (h : RdN w w.heap.size (.slice A ns.length c) ns) (hi : i < ns.length) (hn : ns.length ≤ 1000000) (hp : ∀ j, j < ns.length → Tx.ownAt l ns j = 0) :
    Calls Tryz.prog 47 #[.agg #[.slice A ns.length c], .int .i64 i, .int .i64 (Tx.parI ns i)] w (RetFam (Tx.famRB ns i) w) := by
  have HR := Lib.hid h
  obtain ⟨bT, off, rfl, hbT, hcell⟩ := h.eight (by omega)
  have hcap : ns.length ≤ c ∧ c ≤ 9223372036854775807 := by
    obtain ⟨A', c', hv, h1, h2, -⟩ := h
    cases hv
    exact ⟨h1, h2⟩
  have HC := Lib.hid hcell
  have HP := Lib.hid hp
  have HI := Lib.hid hi
  obtain ⟨f0, f1, f2, f3, f4, f5, f6, f7⟩ := hcell i hi
  obtain ⟨n, hn0⟩ : ∃ n, n = Tx.nd ns i := ⟨_, rfl⟩
  rw [← hn0] at f0 f1 f2 f3 f4 f5 f6 f7
  have HN := Lib.hid hn0
  have hiI : (i : Int) < (ns.length : Int) := by omega
  have hi0 : (0 : Int) ≤ (i : Int) := by omega
  have hnI : (ns.length : Int) ≤ 1000000 := by omega
  have hbd := own_bounds (hp i hi)
  have hkk : 1 ≤ n.kind ∧ n.kind ≤ 7 := by
    have := hp i hi
    unfold Tx.ownAt Tx.ownV at this
    by_cases q : (Tx.nd ns i).kind < 1 ∨ 7 < (Tx.nd ns i).kind
    · rw [if_pos q] at this
      exact absurd this (by decide)
    · rw [hn0]
      omega
  obtain ⟨Z, hZ⟩ : ∃ Z, Z = w.heap.size := ⟨_, rfl⟩
  have HZ := Lib.hid hZ
  have HKD : Hid (n.kind = Tx.kd ns i) := Lib.hid (by rw [hn0]; rfl)
  have HDP : Hid (n.depth = Tx.dp ns i) := Lib.hid (by rw [hn0]; rfl)
  obtain ⟨ks, hks⟩ : ∃ ks, ks = Tx.kidsV ns i := ⟨_, rfl⟩
  have HKS := Lib.hid hks
  have hkl : ks.length ≤ 1000000 := by rw [hks]; have := Tx.kidsV_len ns i hi; omega
  have hklI : (ks.length : Int) ≤ 1000000 := by omega
  have HKIN : Hid (∀ (j q : Nat), ks[j]? = some q → q < ns.length) := Lib.hid fun j q hq => by
    have := List.mem_of_getElem? hq
    rw [hks] at this
    have h2 := Tx.mem_kids.1 this
    have h3 := Tx.end_le (ns := ns) hi
    omega
  have HKC : Hid (∀ (W : World), Below Z w W → Calls Tryz.prog 51 #[.agg #[.slice (some ⟨bT, off, none⟩) ns.length c], .int .i64 i] W (RetNs ks W)) := Lib.hid fun W q => by
    rw [hks]
    rw [hZ] at q
    exact r2Kids_node ns W _ c i ((HR.out.below q).more q.size) hn hi (by unfold Tx.dp; omega) (by unfold Tx.dp; omega)
  have HVAL : Hid (∀ κ, n.kind = κ → Tx.famRB ns i = (decide (Tx.lowV κ ≤ ks.length) && decide (ks.length ≤ Tx.highV κ) && !(κ == 5 && decide (0 < n.depth)) && !(κ == 7 && decide (0 < n.depth) && Tx.parBad ns i) && ks.all fun k => !Tx.kidBad κ (Tx.kd ns k))) := Lib.hid fun κ hκ => by
    unfold Tx.famRB
    rw [← HKD.out, ← HDP.out, hκ, ← hks]
  have HKR : Hid (n.kind = 1 ∨ n.kind = 2 ∨ n.kind = 3 ∨ n.kind = 4 ∨ n.kind = 5 ∨ n.kind = 6 ∨ n.kind = 7) := Lib.hid (by omega)
  obtain ⟨W2, hW2⟩ : ∃ W2, W2 = (w.alloc (.cells #[.slice (some ⟨bT, off, none⟩) ns.length c] 27)).alloc (.cells #[.int .i64 n.kind, .int .i64 n.depth, .int .i64 n.sign, .int .i64 n.turn, .bool n.mirror, .int .i64 n.state, .int .i64 n.lo, .int .i64 n.hi] 59) := ⟨_, rfl⟩
  have hbl : Below Z w W2 := by rw [hW2, hZ]; exact ((Below.refl _ _).alloc (Nat.le_refl _) _).alloc (by simp) _
  have hsz : W2.heap.size = Z + 2 := by rw [hW2, hZ]; simp
  have b0 : W2.heap[Z]? = some (.cells #[.slice (some ⟨bT, off, none⟩) ns.length c] 27 (0, 0)) := by rw [hW2, hZ]; exact heap_alloc2_old _ _ _
  have b1 : W2.heap[Z + 1]? = some (.cells #[.int .i64 n.kind, .int .i64 n.depth, .int .i64 n.sign, .int .i64 n.turn, .bool n.mirror, .int .i64 n.state, .int .i64 n.lo, .int .i64 n.hi] 59 (0, 0)) := by rw [hW2, hZ]; exact heap_alloc2_new _ _ _
  have HBL := Lib.hid hbl
  have HSZ := Lib.hid hsz
  have HB0 := Lib.hid b0
  have HB1 := Lib.hid b1
  have HW2 := Lib.hid hW2
  have OWN : Hid (∀ W : World, Below (Z + 2) W2 W → W.heap[Z]? = some (.cells #[.slice (some ⟨bT, off, none⟩) ns.length c] 27 (0, 0)) ∧ W.heap[Z + 1]? = some (.cells #[.int .i64 n.kind, .int .i64 n.depth, .int .i64 n.sign, .int .i64 n.turn, .bool n.mirror, .int .i64 n.state, .int .i64 n.lo, .int .i64 n.hi] 59 (0, 0)) ∧ Below Z w W) := Lib.hid fun W hW => ⟨(hW.block Z (by omega)).trans HB0.out, (hW.block (Z + 1) (by omega)).trans HB1.out, HBL.out.trans (hW.mono (by omega))⟩
  have HRES : Hid (∀ (v : Bool) (W : World), Tx.famRB ns i = v → Below (Z + 2) W2 W → RetFam (Tx.famRB ns i) w (.returned (.bool v)) W) := Lib.hid fun v W q1 q2 => by
    rw [q1]
    refine ⟨rfl, ?_⟩
    rw [← HZ.out]
    exact (OWN.out W q2).2.2
  have HNK : Hid (∀ (W : World), Below Z w W → ∀ q, q < ns.length → W.cell? ⟨bT, off + q * 8, none⟩ = some (.int .i64 (Tx.kd ns q))) := Lib.hid fun W hW q hq => (World.cell?_of_block (by rw [HZ.out] at hW; exact hW.block bT hbT)).trans (HC.out q hq).1
  have x0 := bx_cell b0
  clear h hcell hp hn0 hkk hbd hZ hks hW2 hbl hsz b0 b1
  go_enter Tryz.func47, Tryz.ntmps47
  go_upto_region 2 with fail
  rw [← HZ.out, ← HW2.out]
  clear f0 f1 f2 f3 f4 f5 f6 f7
  go_wp2_with fail
  refine (HKC.out W2 HBL.out).mono ?_
  rintro e w3 hret
  obtain ⟨Ak, ck, rfl, hb3, hrk⟩ := hret.rd
  have HRK := Lib.hid hrk
  have hb3z : Below (Z + 2) W2 w3 := hb3.mono (by rw [HSZ.out]; exact Nat.le_refl _)
  have HB3 := Lib.hid hb3z
  have hz3 : Z + 2 ≤ w3.heap.size := by have := hb3.size; have := HSZ.out; omega
  have hw23 := OWN.out w3 hb3z
  have x0 := bx_cell hw23.1
  have y1 := hw23.2.1
  have HLFC : Hid (∀ (κ : Int) (W1 : World), Calls Tryz.prog 71 #[.int .i64 κ] W1 (fun e w' => e = .returned (.bool (Tx.leafB κ)) ∧ w' = W1)) := Lib.hid fun κ W1 => r2Leaf_any κ W1
  have HKKS : Hid (1 ≤ n.kind ∧ n.kind ≤ 7) := Lib.hid (by have := HKR.out; omega)
  clear hret hb3 hrk hb3z hw23
  rcases HKR.out with hκ | hκ | hκ | hκ | hκ | hκ | hκ
  · have HV0 := Lib.hid (HVAL.out 1 hκ)
    have hbig : Tx.lowV 1 = 0 ∧ Tx.highV 1 = 0 := ⟨rfl, rfl⟩
    have hks : ks = [] := by rw [HKS.out]; exact Tx.leaf_kids (Tx.deep_of HP.out) HI.out (by rw [← HKD.out, hκ]; rfl)
    subst hks
    have HV : Hid (Tx.famRB ns i = true) := Lib.hid (by rw [HV0.out, hbig.1, hbig.2]; simp)
    rw [hκ] at y1
    obtain ⟨z0, z1, z2, z3, z4, z5, z6, z7⟩ := box8_cells y1
    have HLF : Hid (∀ W1 : World, Calls Tryz.prog 71 #[.int .i64 1] W1 (fun e w' => e = .returned (.bool true) ∧ w' = W1)) := Lib.hid fun W1 => HLFC.out 1 W1
    clear hκ y1 hbig hklI hkl
    simp only [List.length_nil]
    go_wp2_with fail
    refine (HLF.out _).mono ?_
    rintro e w4 ⟨rfl, rfl⟩
    obtain ⟨WL, hWL⟩ : ∃ WL, WL = w4 := ⟨_, rfl⟩
    rw [← hWL] at x0 z0 z1 z2 z3 z4 z5 z6 z7 HRK HB3 ⊢
    clear hWL
    go_wp2_with fail
    go_loopg [11] 0 (fun g v wr => v = .int .i64 0 ∧ wr = WL)
    case atStart => exact ⟨rfl, rfl⟩
    case round =>
      obtain ⟨rfl, rfl⟩ := hrel
      go_wp2_with fail
      go_ret
      exact HRES.out _ _ HV.out HB3.out
  · have HV0 := Lib.hid (HVAL.out 2 hκ)
    have hbig : Tx.lowV 2 = 2 ∧ Tx.highV 2 = 6 := ⟨rfl, rfl⟩
    rw [hκ] at y1
    obtain ⟨z0, z1, z2, z3, z4, z5, z6, z7⟩ := box8_cells y1
    have HLF : Hid (∀ W1 : World, Calls Tryz.prog 71 #[.int .i64 2] W1 (fun e w' => e = .returned (.bool false) ∧ w' = W1)) := Lib.hid fun W1 => HLFC.out 2 W1
    have HKQ := Lib.hid hκ
    clear hκ y1
    go_wp2_with fail
    refine (HLF.out _).mono ?_
    rintro e w4 ⟨rfl, rfl⟩
    by_cases hm1 : ks.length < 2
    · have hm1I : (ks.length : Int) < 2 := by omega
      have HV : Hid (Tx.famRB ns i = false) := Lib.hid (by rw [HV0.out, hbig.1, decide_eq_false (by omega)]; simp)
      clear hm1 hbig
      go_wp2_with fail
      go_ret
      exact HRES.out _ _ HV.out HB3.out
    by_cases hm2 : 6 < ks.length
    · have hm1I : ¬ (ks.length : Int) < 2 := by omega
      have hm2I : (6 : Int) < (ks.length : Int) := by omega
      have HV : Hid (Tx.famRB ns i = false) := Lib.hid (by rw [HV0.out, hbig.2, decide_eq_false (show ¬ ks.length ≤ 6 by omega)]; simp)
      clear hm1 hm2 hbig
      go_wp2_with fail
      go_ret
      exact HRES.out _ _ HV.out HB3.out
    have hm1I : ¬ (ks.length : Int) < 2 := by omega
    have hm2I : ¬ (6 : Int) < (ks.length : Int) := by omega
    have HV1 : Hid (Tx.famRB ns i = (!((2 : Int) == 5 && decide (0 < n.depth)) && !((2 : Int) == 7 && decide (0 < n.depth) && Tx.parBad ns i) && ks.all fun k => !Tx.kidBad 2 (Tx.kd ns k))) := Lib.hid (by rw [HV0.out, hbig.1, hbig.2, decide_eq_true (show 2 ≤ ks.length by omega), decide_eq_true (show ks.length ≤ 6 by omega)]; simp)
    clear hm1 hm2 hbig HV0
    have HFV : Hid (Tx.famRB ns i = ks.all fun k => !Tx.kidBad 2 (Tx.kd ns k)) := Lib.hid (by rw [HV1.out]; simp)
    obtain ⟨WL, hWL⟩ : ∃ WL, WL = w4 := ⟨_, rfl⟩
    rw [← hWL] at x0 z0 z1 z2 z3 z4 z5 z6 z7 HRK HB3 ⊢
    have HRL := HRK
    have HBLL := HB3
    clear hWL
    have HOKL : Hid (∀ (k : Nat), ks.length ≤ k → Tx.famRB ns i = (ks.take k).all fun k => !Tx.kidBad 2 (Tx.kd ns k)) := Lib.hid fun k hk => by
      rw [HFV.out, List.take_of_length_le hk]
    go_upto_region 15 with fail
    clear hm1I hm2I
    go_wp2_with fail
    go_loopg [11] ks.length (fun g v wr => ∃ j : Nat, j ≤ ks.length ∧ g = ks.length - j ∧ v = .int .i64 (j : Int) ∧ (∃ n, wr = WL.drewN n) ∧ ((ks.take j).all fun k => !Tx.kidBad 2 (Tx.kd ns k)) = true)
    case atStart => exact ⟨0, Nat.zero_le _, rfl, rfl, ⟨0, rfl⟩, rfl⟩
    case round =>
      obtain ⟨j, hj, rfl, rfl, ⟨nd0, rfl⟩, hall⟩ := hrel
      have HALL := Lib.hid hall
      clear hall
      by_cases hlt : j < ks.length
      · obtain ⟨q, hq⟩ : ∃ q, ks[j]? = some q := ⟨_, List.getElem?_eq_getElem hlt⟩
        have hqn : q < ns.length := HKIN.out j q hq
        obtain ⟨bk, ok, hA, hbk, hck⟩ := ints_cell HRL.out (k := j) (x := (q : Int)) (by rw [List.getElem?_map, hq]; rfl)
        subst hA
        have g0 := HNK.out WL (OWN.out WL HBLL.out).2.2 q hqn
        obtain ⟨kq, hkq⟩ : ∃ kq, kq = Tx.kd ns q := ⟨_, rfl⟩
        rw [← hkq] at g0
        have hjI : (j : Int) < (ks.length : Int) := by omega
        have hj0 : (0 : Int) ≤ (j : Int) := by omega
        have hqI : (q : Int) < (ns.length : Int) := by omega
        have hq0 : (0 : Int) ≤ (q : Int) := by omega
        have HAN : Hid (((ks.take (j + 1)).all fun k => !Tx.kidBad 2 (Tx.kd ns k)) = !Tx.kidBad 2 kq) := Lib.hid (by rw [Tx.all_take_succ hq, HALL.out, hkq]; rfl)
        have HBAD : Hid (Tx.kidBad 2 kq = true → Tx.famRB ns i = false) := Lib.hid fun hb => by
          rw [HFV.out]
          exact Tx.all_bad hq (by rw [← hkq, hb]; rfl)
        clear hq hkq
        obtain ⟨z1, hz1⟩ : ∃ z, (kq == 1) = z := ⟨_, rfl⟩
        obtain ⟨z2, hz2⟩ : ∃ z, (kq == 2) = z := ⟨_, rfl⟩
        obtain ⟨z3, hz3⟩ : ∃ z, (kq == 3) = z := ⟨_, rfl⟩
        obtain ⟨z7, hz7⟩ : ∃ z, (kq == 7) = z := ⟨_, rfl⟩
        have hzn : (kq != 1) = !z1 := by rw [← hz1]; rfl
        have HKB : Hid (Tx.kidBad 2 kq = (z2)) := Lib.hid (by subst hz1; subst hz2; subst hz3; subst hz7; unfold Tx.kidBad; simp)
        go_upto_region 18 with fail
        go_quiet (fail)
        cases z2
        all_goals try simp only [Bool.not_true, Bool.not_false] at hzn
        all_goals go_wp2_with fail
        all_goals first
          | (go_ret; exact HRES.out _ _ (HBAD.out (HKB.out.trans rfl)) (HBLL.out.trans (by first | exact drew_below _ | exact (drew_below nd0).trans (drew_below _))))
          | (go_roundg (ks.length - (j + 1))
             case measure => omega
             case rel => exact ⟨j + 1, by omega, rfl, by go_num, ⟨_, rfl⟩, HAN.out.trans ((congrArg not HKB.out).trans rfl)⟩)
      · have hjI : ¬ (j : Int) < (ks.length : Int) := by omega
        have HV : Hid (Tx.famRB ns i = true) := Lib.hid (by rw [HOKL.out j (by omega)]; exact HALL.out)
        go_wp2_with fail
        go_ret
        exact HRES.out _ _ HV.out (HBLL.out.trans (drew_below nd0))
  · have HV0 := Lib.hid (HVAL.out 3 hκ)
    have hbig : Tx.lowV 3 = 2 ∧ Tx.highV 3 = 6 := ⟨rfl, rfl⟩
    rw [hκ] at y1
    obtain ⟨z0, z1, z2, z3, z4, z5, z6, z7⟩ := box8_cells y1
    have HLF : Hid (∀ W1 : World, Calls Tryz.prog 71 #[.int .i64 3] W1 (fun e w' => e = .returned (.bool false) ∧ w' = W1)) := Lib.hid fun W1 => HLFC.out 3 W1
    have HKQ := Lib.hid hκ
    clear hκ y1
    go_wp2_with fail
    refine (HLF.out _).mono ?_
    rintro e w4 ⟨rfl, rfl⟩
    by_cases hm1 : ks.length < 2
    · have hm1I : (ks.length : Int) < 2 := by omega
      have HV : Hid (Tx.famRB ns i = false) := Lib.hid (by rw [HV0.out, hbig.1, decide_eq_false (by omega)]; simp)
      clear hm1 hbig
      go_wp2_with fail
      go_ret
      exact HRES.out _ _ HV.out HB3.out
    by_cases hm2 : 6 < ks.length
    · have hm1I : ¬ (ks.length : Int) < 2 := by omega
      have hm2I : (6 : Int) < (ks.length : Int) := by omega
      have HV : Hid (Tx.famRB ns i = false) := Lib.hid (by rw [HV0.out, hbig.2, decide_eq_false (show ¬ ks.length ≤ 6 by omega)]; simp)
      clear hm1 hm2 hbig
      go_wp2_with fail
      go_ret
      exact HRES.out _ _ HV.out HB3.out
    have hm1I : ¬ (ks.length : Int) < 2 := by omega
    have hm2I : ¬ (6 : Int) < (ks.length : Int) := by omega
    have HV1 : Hid (Tx.famRB ns i = (!((3 : Int) == 5 && decide (0 < n.depth)) && !((3 : Int) == 7 && decide (0 < n.depth) && Tx.parBad ns i) && ks.all fun k => !Tx.kidBad 3 (Tx.kd ns k))) := Lib.hid (by rw [HV0.out, hbig.1, hbig.2, decide_eq_true (show 2 ≤ ks.length by omega), decide_eq_true (show ks.length ≤ 6 by omega)]; simp)
    clear hm1 hm2 hbig HV0
    have HFV : Hid (Tx.famRB ns i = ks.all fun k => !Tx.kidBad 3 (Tx.kd ns k)) := Lib.hid (by rw [HV1.out]; simp)
    obtain ⟨WL, hWL⟩ : ∃ WL, WL = w4 := ⟨_, rfl⟩
    rw [← hWL] at x0 z0 z1 z2 z3 z4 z5 z6 z7 HRK HB3 ⊢
    have HRL := HRK
    have HBLL := HB3
    clear hWL
    have HOKL : Hid (∀ (k : Nat), ks.length ≤ k → Tx.famRB ns i = (ks.take k).all fun k => !Tx.kidBad 3 (Tx.kd ns k)) := Lib.hid fun k hk => by
      rw [HFV.out, List.take_of_length_le hk]
    go_upto_region 15 with fail
    clear hm1I hm2I
    go_wp2_with fail
    go_loopg [11] ks.length (fun g v wr => ∃ j : Nat, j ≤ ks.length ∧ g = ks.length - j ∧ v = .int .i64 (j : Int) ∧ (∃ n, wr = WL.drewN n) ∧ ((ks.take j).all fun k => !Tx.kidBad 3 (Tx.kd ns k)) = true)
    case atStart => exact ⟨0, Nat.zero_le _, rfl, rfl, ⟨0, rfl⟩, rfl⟩
    case round =>
      obtain ⟨j, hj, rfl, rfl, ⟨nd0, rfl⟩, hall⟩ := hrel
      have HALL := Lib.hid hall
      clear hall
      by_cases hlt : j < ks.length
      · obtain ⟨q, hq⟩ : ∃ q, ks[j]? = some q := ⟨_, List.getElem?_eq_getElem hlt⟩
        have hqn : q < ns.length := HKIN.out j q hq
        obtain ⟨bk, ok, hA, hbk, hck⟩ := ints_cell HRL.out (k := j) (x := (q : Int)) (by rw [List.getElem?_map, hq]; rfl)
        subst hA
        have g0 := HNK.out WL (OWN.out WL HBLL.out).2.2 q hqn
        obtain ⟨kq, hkq⟩ : ∃ kq, kq = Tx.kd ns q := ⟨_, rfl⟩
        rw [← hkq] at g0
        have hjI : (j : Int) < (ks.length : Int) := by omega
        have hj0 : (0 : Int) ≤ (j : Int) := by omega
        have hqI : (q : Int) < (ns.length : Int) := by omega
        have hq0 : (0 : Int) ≤ (q : Int) := by omega
        have HAN : Hid (((ks.take (j + 1)).all fun k => !Tx.kidBad 3 (Tx.kd ns k)) = !Tx.kidBad 3 kq) := Lib.hid (by rw [Tx.all_take_succ hq, HALL.out, hkq]; rfl)
        have HBAD : Hid (Tx.kidBad 3 kq = true → Tx.famRB ns i = false) := Lib.hid fun hb => by
          rw [HFV.out]
          exact Tx.all_bad hq (by rw [← hkq, hb]; rfl)
        clear hq hkq
        obtain ⟨z1, hz1⟩ : ∃ z, (kq == 1) = z := ⟨_, rfl⟩
        obtain ⟨z2, hz2⟩ : ∃ z, (kq == 2) = z := ⟨_, rfl⟩
        obtain ⟨z3, hz3⟩ : ∃ z, (kq == 3) = z := ⟨_, rfl⟩
        obtain ⟨z7, hz7⟩ : ∃ z, (kq == 7) = z := ⟨_, rfl⟩
        have hzn : (kq != 1) = !z1 := by rw [← hz1]; rfl
        have HKB : Hid (Tx.kidBad 3 kq = (z3)) := Lib.hid (by subst hz1; subst hz2; subst hz3; subst hz7; unfold Tx.kidBad; simp)
        go_upto_region 18 with fail
        go_quiet (fail)
        cases z3
        all_goals try simp only [Bool.not_true, Bool.not_false] at hzn
        all_goals go_wp2_with fail
        all_goals first
          | (go_ret; exact HRES.out _ _ (HBAD.out (HKB.out.trans rfl)) (HBLL.out.trans (by first | exact drew_below _ | exact (drew_below nd0).trans (drew_below _))))
          | (go_roundg (ks.length - (j + 1))
             case measure => omega
             case rel => exact ⟨j + 1, by omega, rfl, by go_num, ⟨_, rfl⟩, HAN.out.trans ((congrArg not HKB.out).trans rfl)⟩)
      · have hjI : ¬ (j : Int) < (ks.length : Int) := by omega
        have HV : Hid (Tx.famRB ns i = true) := Lib.hid (by rw [HOKL.out j (by omega)]; exact HALL.out)
        go_wp2_with fail
        go_ret
        exact HRES.out _ _ HV.out (HBLL.out.trans (drew_below nd0))
  · have HV0 := Lib.hid (HVAL.out 4 hκ)
    have hbig : Tx.lowV 4 = 2 ∧ Tx.highV 4 = 2 := ⟨rfl, rfl⟩
    rw [hκ] at y1
    obtain ⟨z0, z1, z2, z3, z4, z5, z6, z7⟩ := box8_cells y1
    have HLF : Hid (∀ W1 : World, Calls Tryz.prog 71 #[.int .i64 4] W1 (fun e w' => e = .returned (.bool false) ∧ w' = W1)) := Lib.hid fun W1 => HLFC.out 4 W1
    have HKQ := Lib.hid hκ
    clear hκ y1
    go_wp2_with fail
    refine (HLF.out _).mono ?_
    rintro e w4 ⟨rfl, rfl⟩
    by_cases hm1 : ks.length < 2
    · have hm1I : (ks.length : Int) < 2 := by omega
      have HV : Hid (Tx.famRB ns i = false) := Lib.hid (by rw [HV0.out, hbig.1, decide_eq_false (by omega)]; simp)
      clear hm1 hbig
      go_wp2_with fail
      go_ret
      exact HRES.out _ _ HV.out HB3.out
    by_cases hm2 : 2 < ks.length
    · have hm1I : ¬ (ks.length : Int) < 2 := by omega
      have hm2I : (2 : Int) < (ks.length : Int) := by omega
      have HV : Hid (Tx.famRB ns i = false) := Lib.hid (by rw [HV0.out, hbig.2, decide_eq_false (show ¬ ks.length ≤ 2 by omega)]; simp)
      clear hm1 hm2 hbig
      go_wp2_with fail
      go_ret
      exact HRES.out _ _ HV.out HB3.out
    have hm1I : ¬ (ks.length : Int) < 2 := by omega
    have hm2I : ¬ (2 : Int) < (ks.length : Int) := by omega
    have HV1 : Hid (Tx.famRB ns i = (!((4 : Int) == 5 && decide (0 < n.depth)) && !((4 : Int) == 7 && decide (0 < n.depth) && Tx.parBad ns i) && ks.all fun k => !Tx.kidBad 4 (Tx.kd ns k))) := Lib.hid (by rw [HV0.out, hbig.1, hbig.2, decide_eq_true (show 2 ≤ ks.length by omega), decide_eq_true (show ks.length ≤ 2 by omega)]; simp)
    clear hm1 hm2 hbig HV0
    have HFV : Hid (Tx.famRB ns i = ks.all fun k => !Tx.kidBad 4 (Tx.kd ns k)) := Lib.hid (by rw [HV1.out]; simp)
    obtain ⟨WL, hWL⟩ : ∃ WL, WL = w4 := ⟨_, rfl⟩
    rw [← hWL] at x0 z0 z1 z2 z3 z4 z5 z6 z7 HRK HB3 ⊢
    have HRL := HRK
    have HBLL := HB3
    clear hWL
    have HOKL : Hid (∀ (k : Nat), ks.length ≤ k → Tx.famRB ns i = (ks.take k).all fun k => !Tx.kidBad 4 (Tx.kd ns k)) := Lib.hid fun k hk => by
      rw [HFV.out, List.take_of_length_le hk]
    go_upto_region 15 with fail
    clear hm1I hm2I
    go_wp2_with fail
    go_loopg [11] ks.length (fun g v wr => ∃ j : Nat, j ≤ ks.length ∧ g = ks.length - j ∧ v = .int .i64 (j : Int) ∧ (∃ n, wr = WL.drewN n) ∧ ((ks.take j).all fun k => !Tx.kidBad 4 (Tx.kd ns k)) = true)
    case atStart => exact ⟨0, Nat.zero_le _, rfl, rfl, ⟨0, rfl⟩, rfl⟩
    case round =>
      obtain ⟨j, hj, rfl, rfl, ⟨nd0, rfl⟩, hall⟩ := hrel
      have HALL := Lib.hid hall
      clear hall
      by_cases hlt : j < ks.length
      · obtain ⟨q, hq⟩ : ∃ q, ks[j]? = some q := ⟨_, List.getElem?_eq_getElem hlt⟩
        have hqn : q < ns.length := HKIN.out j q hq
        obtain ⟨bk, ok, hA, hbk, hck⟩ := ints_cell HRL.out (k := j) (x := (q : Int)) (by rw [List.getElem?_map, hq]; rfl)
        subst hA
        have g0 := HNK.out WL (OWN.out WL HBLL.out).2.2 q hqn
        obtain ⟨kq, hkq⟩ : ∃ kq, kq = Tx.kd ns q := ⟨_, rfl⟩
        rw [← hkq] at g0
        have hjI : (j : Int) < (ks.length : Int) := by omega
        have hj0 : (0 : Int) ≤ (j : Int) := by omega
        have hqI : (q : Int) < (ns.length : Int) := by omega
        have hq0 : (0 : Int) ≤ (q : Int) := by omega
        have HAN : Hid (((ks.take (j + 1)).all fun k => !Tx.kidBad 4 (Tx.kd ns k)) = !Tx.kidBad 4 kq) := Lib.hid (by rw [Tx.all_take_succ hq, HALL.out, hkq]; rfl)
        have HBAD : Hid (Tx.kidBad 4 kq = true → Tx.famRB ns i = false) := Lib.hid fun hb => by
          rw [HFV.out]
          exact Tx.all_bad hq (by rw [← hkq, hb]; rfl)
        clear hq hkq
        obtain ⟨z1, hz1⟩ : ∃ z, (kq == 1) = z := ⟨_, rfl⟩
        obtain ⟨z2, hz2⟩ : ∃ z, (kq == 2) = z := ⟨_, rfl⟩
        obtain ⟨z3, hz3⟩ : ∃ z, (kq == 3) = z := ⟨_, rfl⟩
        obtain ⟨z7, hz7⟩ : ∃ z, (kq == 7) = z := ⟨_, rfl⟩
        have hzn : (kq != 1) = !z1 := by rw [← hz1]; rfl
        have HKB : Hid (Tx.kidBad 4 kq = (!z1)) := Lib.hid (by subst hz1; subst hz2; subst hz3; subst hz7; unfold Tx.kidBad; simp)
        go_upto_region 18 with fail
        go_quiet (fail)
        cases z1
        all_goals try simp only [Bool.not_true, Bool.not_false] at hzn
        all_goals go_wp2_with fail
        all_goals first
          | (go_ret; exact HRES.out _ _ (HBAD.out (HKB.out.trans rfl)) (HBLL.out.trans (by first | exact drew_below _ | exact (drew_below nd0).trans (drew_below _))))
          | (go_roundg (ks.length - (j + 1))
             case measure => omega
             case rel => exact ⟨j + 1, by omega, rfl, by go_num, ⟨_, rfl⟩, HAN.out.trans ((congrArg not HKB.out).trans rfl)⟩)
      · have hjI : ¬ (j : Int) < (ks.length : Int) := by omega
        have HV : Hid (Tx.famRB ns i = true) := Lib.hid (by rw [HOKL.out j (by omega)]; exact HALL.out)
        go_wp2_with fail
        go_ret
        exact HRES.out _ _ HV.out (HBLL.out.trans (drew_below nd0))
  · have HV0 := Lib.hid (HVAL.out 5 hκ)
    have hbig : Tx.lowV 5 = 1 ∧ Tx.highV 5 = 6 := ⟨rfl, rfl⟩
    rw [hκ] at y1
    obtain ⟨z0, z1, z2, z3, z4, z5, z6, z7⟩ := box8_cells y1
    have HLF : Hid (∀ W1 : World, Calls Tryz.prog 71 #[.int .i64 5] W1 (fun e w' => e = .returned (.bool false) ∧ w' = W1)) := Lib.hid fun W1 => HLFC.out 5 W1
    have HKQ := Lib.hid hκ
    clear hκ y1
    go_wp2_with fail
    refine (HLF.out _).mono ?_
    rintro e w4 ⟨rfl, rfl⟩
    by_cases hm1 : ks.length < 1
    · have hm1I : (ks.length : Int) < 1 := by omega
      have HV : Hid (Tx.famRB ns i = false) := Lib.hid (by rw [HV0.out, hbig.1, decide_eq_false (by omega)]; simp)
      clear hm1 hbig
      go_wp2_with fail
      go_ret
      exact HRES.out _ _ HV.out HB3.out
    by_cases hm2 : 6 < ks.length
    · have hm1I : ¬ (ks.length : Int) < 1 := by omega
      have hm2I : (6 : Int) < (ks.length : Int) := by omega
      have HV : Hid (Tx.famRB ns i = false) := Lib.hid (by rw [HV0.out, hbig.2, decide_eq_false (show ¬ ks.length ≤ 6 by omega)]; simp)
      clear hm1 hm2 hbig
      go_wp2_with fail
      go_ret
      exact HRES.out _ _ HV.out HB3.out
    have hm1I : ¬ (ks.length : Int) < 1 := by omega
    have hm2I : ¬ (6 : Int) < (ks.length : Int) := by omega
    have HV1 : Hid (Tx.famRB ns i = (!((5 : Int) == 5 && decide (0 < n.depth)) && !((5 : Int) == 7 && decide (0 < n.depth) && Tx.parBad ns i) && ks.all fun k => !Tx.kidBad 5 (Tx.kd ns k))) := Lib.hid (by rw [HV0.out, hbig.1, hbig.2, decide_eq_true (show 1 ≤ ks.length by omega), decide_eq_true (show ks.length ≤ 6 by omega)]; simp)
    clear hm1 hm2 hbig HV0
    by_cases hd : 0 < n.depth
    · have HV : Hid (Tx.famRB ns i = false) := Lib.hid (by rw [HV1.out, decide_eq_true hd]; simp)
      go_wp2_with fail
      go_ret
      exact HRES.out _ _ HV.out HB3.out
    have HFV : Hid (Tx.famRB ns i = ks.all fun k => !Tx.kidBad 5 (Tx.kd ns k)) := Lib.hid (by rw [HV1.out, decide_eq_false hd]; simp)
    obtain ⟨WL, hWL⟩ : ∃ WL, WL = w4 := ⟨_, rfl⟩
    rw [← hWL] at x0 z0 z1 z2 z3 z4 z5 z6 z7 HRK HB3 ⊢
    have HRL := HRK
    have HBLL := HB3
    clear hWL
    have HOKL : Hid (∀ (k : Nat), ks.length ≤ k → Tx.famRB ns i = (ks.take k).all fun k => !Tx.kidBad 5 (Tx.kd ns k)) := Lib.hid fun k hk => by
      rw [HFV.out, List.take_of_length_le hk]
    go_upto_region 15 with fail
    clear hm1I hm2I
    go_wp2_with fail
    go_loopg [11] ks.length (fun g v wr => ∃ j : Nat, j ≤ ks.length ∧ g = ks.length - j ∧ v = .int .i64 (j : Int) ∧ (∃ n, wr = WL.drewN n) ∧ ((ks.take j).all fun k => !Tx.kidBad 5 (Tx.kd ns k)) = true)
    case atStart => exact ⟨0, Nat.zero_le _, rfl, rfl, ⟨0, rfl⟩, rfl⟩
    case round =>
      obtain ⟨j, hj, rfl, rfl, ⟨nd0, rfl⟩, hall⟩ := hrel
      have HALL := Lib.hid hall
      clear hall
      by_cases hlt : j < ks.length
      · obtain ⟨q, hq⟩ : ∃ q, ks[j]? = some q := ⟨_, List.getElem?_eq_getElem hlt⟩
        have hqn : q < ns.length := HKIN.out j q hq
        obtain ⟨bk, ok, hA, hbk, hck⟩ := ints_cell HRL.out (k := j) (x := (q : Int)) (by rw [List.getElem?_map, hq]; rfl)
        subst hA
        have g0 := HNK.out WL (OWN.out WL HBLL.out).2.2 q hqn
        obtain ⟨kq, hkq⟩ : ∃ kq, kq = Tx.kd ns q := ⟨_, rfl⟩
        rw [← hkq] at g0
        have hjI : (j : Int) < (ks.length : Int) := by omega
        have hj0 : (0 : Int) ≤ (j : Int) := by omega
        have hqI : (q : Int) < (ns.length : Int) := by omega
        have hq0 : (0 : Int) ≤ (q : Int) := by omega
        have HAN : Hid (((ks.take (j + 1)).all fun k => !Tx.kidBad 5 (Tx.kd ns k)) = !Tx.kidBad 5 kq) := Lib.hid (by rw [Tx.all_take_succ hq, HALL.out, hkq]; rfl)
        have HBAD : Hid (Tx.kidBad 5 kq = true → Tx.famRB ns i = false) := Lib.hid fun hb => by
          rw [HFV.out]
          exact Tx.all_bad hq (by rw [← hkq, hb]; rfl)
        clear hq hkq
        obtain ⟨z1, hz1⟩ : ∃ z, (kq == 1) = z := ⟨_, rfl⟩
        obtain ⟨z2, hz2⟩ : ∃ z, (kq == 2) = z := ⟨_, rfl⟩
        obtain ⟨z3, hz3⟩ : ∃ z, (kq == 3) = z := ⟨_, rfl⟩
        obtain ⟨z7, hz7⟩ : ∃ z, (kq == 7) = z := ⟨_, rfl⟩
        have hzn : (kq != 1) = !z1 := by rw [← hz1]; rfl
        have HKB : Hid (Tx.kidBad 5 kq = (z2)) := Lib.hid (by subst hz1; subst hz2; subst hz3; subst hz7; unfold Tx.kidBad; simp)
        go_upto_region 18 with fail
        go_quiet (fail)
        cases z2
        all_goals try simp only [Bool.not_true, Bool.not_false] at hzn
        all_goals go_wp2_with fail
        all_goals first
          | (go_ret; exact HRES.out _ _ (HBAD.out (HKB.out.trans rfl)) (HBLL.out.trans (by first | exact drew_below _ | exact (drew_below nd0).trans (drew_below _))))
          | (go_roundg (ks.length - (j + 1))
             case measure => omega
             case rel => exact ⟨j + 1, by omega, rfl, by go_num, ⟨_, rfl⟩, HAN.out.trans ((congrArg not HKB.out).trans rfl)⟩)
      · have hjI : ¬ (j : Int) < (ks.length : Int) := by omega
        have HV : Hid (Tx.famRB ns i = true) := Lib.hid (by rw [HOKL.out j (by omega)]; exact HALL.out)
        go_wp2_with fail
        go_ret
        exact HRES.out _ _ HV.out (HBLL.out.trans (drew_below nd0))
  · have HV0 := Lib.hid (HVAL.out 6 hκ)
    have hbig : Tx.lowV 6 = 0 ∧ Tx.highV 6 = 0 := ⟨rfl, rfl⟩
    have hks : ks = [] := by rw [HKS.out]; exact Tx.leaf_kids (Tx.deep_of HP.out) HI.out (by rw [← HKD.out, hκ]; rfl)
    subst hks
    have HV : Hid (Tx.famRB ns i = true) := Lib.hid (by rw [HV0.out, hbig.1, hbig.2]; simp)
    rw [hκ] at y1
    obtain ⟨z0, z1, z2, z3, z4, z5, z6, z7⟩ := box8_cells y1
    have HLF : Hid (∀ W1 : World, Calls Tryz.prog 71 #[.int .i64 6] W1 (fun e w' => e = .returned (.bool true) ∧ w' = W1)) := Lib.hid fun W1 => HLFC.out 6 W1
    clear hκ y1 hbig hklI hkl
    simp only [List.length_nil]
    go_wp2_with fail
    refine (HLF.out _).mono ?_
    rintro e w4 ⟨rfl, rfl⟩
    obtain ⟨WL, hWL⟩ : ∃ WL, WL = w4 := ⟨_, rfl⟩
    rw [← hWL] at x0 z0 z1 z2 z3 z4 z5 z6 z7 HRK HB3 ⊢
    clear hWL
    go_wp2_with fail
    go_loopg [11] 0 (fun g v wr => v = .int .i64 0 ∧ wr = WL)
    case atStart => exact ⟨rfl, rfl⟩
    case round =>
      obtain ⟨rfl, rfl⟩ := hrel
      go_wp2_with fail
      go_ret
      exact HRES.out _ _ HV.out HB3.out
  · have HV0 := Lib.hid (HVAL.out 7 hκ)
    have hbig : Tx.lowV 7 = 2 ∧ Tx.highV 7 = 6 := ⟨rfl, rfl⟩
    rw [hκ] at y1
    obtain ⟨z0, z1, z2, z3, z4, z5, z6, z7⟩ := box8_cells y1
    have HLF : Hid (∀ W1 : World, Calls Tryz.prog 71 #[.int .i64 7] W1 (fun e w' => e = .returned (.bool false) ∧ w' = W1)) := Lib.hid fun W1 => HLFC.out 7 W1
    have HKQ := Lib.hid hκ
    clear hκ y1
    go_wp2_with fail
    refine (HLF.out _).mono ?_
    rintro e w4 ⟨rfl, rfl⟩
    by_cases hm1 : ks.length < 2
    · have hm1I : (ks.length : Int) < 2 := by omega
      have HV : Hid (Tx.famRB ns i = false) := Lib.hid (by rw [HV0.out, hbig.1, decide_eq_false (by omega)]; simp)
      clear hm1 hbig
      go_wp2_with fail
      go_ret
      exact HRES.out _ _ HV.out HB3.out
    by_cases hm2 : 6 < ks.length
    · have hm1I : ¬ (ks.length : Int) < 2 := by omega
      have hm2I : (6 : Int) < (ks.length : Int) := by omega
      have HV : Hid (Tx.famRB ns i = false) := Lib.hid (by rw [HV0.out, hbig.2, decide_eq_false (show ¬ ks.length ≤ 6 by omega)]; simp)
      clear hm1 hm2 hbig
      go_wp2_with fail
      go_ret
      exact HRES.out _ _ HV.out HB3.out
    have hm1I : ¬ (ks.length : Int) < 2 := by omega
    have hm2I : ¬ (6 : Int) < (ks.length : Int) := by omega
    have HV1 : Hid (Tx.famRB ns i = (!((7 : Int) == 5 && decide (0 < n.depth)) && !((7 : Int) == 7 && decide (0 < n.depth) && Tx.parBad ns i) && ks.all fun k => !Tx.kidBad 7 (Tx.kd ns k))) := Lib.hid (by rw [HV0.out, hbig.1, hbig.2, decide_eq_true (show 2 ≤ ks.length by omega), decide_eq_true (show ks.length ≤ 6 by omega)]; simp)
    clear hm1 hm2 hbig HV0
    by_cases hd : 0 < n.depth
    case neg =>
      have HFV : Hid (Tx.famRB ns i = ks.all fun k => !Tx.kidBad 7 (Tx.kd ns k)) := Lib.hid (by rw [HV1.out, decide_eq_false hd]; simp)
      obtain ⟨WL, hWL⟩ : ∃ WL, WL = w4 := ⟨_, rfl⟩
      rw [← hWL] at x0 z0 z1 z2 z3 z4 z5 z6 z7 HRK HB3 ⊢
      have HRL := HRK
      have HBLL := HB3
      clear hWL
      have HOKL : Hid (∀ (k : Nat), ks.length ≤ k → Tx.famRB ns i = (ks.take k).all fun k => !Tx.kidBad 7 (Tx.kd ns k)) := Lib.hid fun k hk => by
        rw [HFV.out, List.take_of_length_le hk]
      go_upto_region 15 with fail
      clear hm1I hm2I
      go_wp2_with fail
      go_loopg [11] ks.length (fun g v wr => ∃ j : Nat, j ≤ ks.length ∧ g = ks.length - j ∧ v = .int .i64 (j : Int) ∧ (∃ n, wr = WL.drewN n) ∧ ((ks.take j).all fun k => !Tx.kidBad 7 (Tx.kd ns k)) = true)
      case atStart => exact ⟨0, Nat.zero_le _, rfl, rfl, ⟨0, rfl⟩, rfl⟩
      case round =>
        obtain ⟨j, hj, rfl, rfl, ⟨nd0, rfl⟩, hall⟩ := hrel
        have HALL := Lib.hid hall
        clear hall
        by_cases hlt : j < ks.length
        · obtain ⟨q, hq⟩ : ∃ q, ks[j]? = some q := ⟨_, List.getElem?_eq_getElem hlt⟩
          have hqn : q < ns.length := HKIN.out j q hq
          obtain ⟨bk, ok, hA, hbk, hck⟩ := ints_cell HRL.out (k := j) (x := (q : Int)) (by rw [List.getElem?_map, hq]; rfl)
          subst hA
          have g0 := HNK.out WL (OWN.out WL HBLL.out).2.2 q hqn
          obtain ⟨kq, hkq⟩ : ∃ kq, kq = Tx.kd ns q := ⟨_, rfl⟩
          rw [← hkq] at g0
          have hjI : (j : Int) < (ks.length : Int) := by omega
          have hj0 : (0 : Int) ≤ (j : Int) := by omega
          have hqI : (q : Int) < (ns.length : Int) := by omega
          have hq0 : (0 : Int) ≤ (q : Int) := by omega
          have HAN : Hid (((ks.take (j + 1)).all fun k => !Tx.kidBad 7 (Tx.kd ns k)) = !Tx.kidBad 7 kq) := Lib.hid (by rw [Tx.all_take_succ hq, HALL.out, hkq]; rfl)
          have HBAD : Hid (Tx.kidBad 7 kq = true → Tx.famRB ns i = false) := Lib.hid fun hb => by
            rw [HFV.out]
            exact Tx.all_bad hq (by rw [← hkq, hb]; rfl)
          clear hq hkq
          obtain ⟨z1, hz1⟩ : ∃ z, (kq == 1) = z := ⟨_, rfl⟩
          obtain ⟨z2, hz2⟩ : ∃ z, (kq == 2) = z := ⟨_, rfl⟩
          obtain ⟨z3, hz3⟩ : ∃ z, (kq == 3) = z := ⟨_, rfl⟩
          obtain ⟨z7, hz7⟩ : ∃ z, (kq == 7) = z := ⟨_, rfl⟩
          have hzn : (kq != 1) = !z1 := by rw [← hz1]; rfl
          have HKB : Hid (Tx.kidBad 7 kq = ((z2 || z7))) := Lib.hid (by subst hz1; subst hz2; subst hz3; subst hz7; unfold Tx.kidBad; simp)
          go_upto_region 18 with fail
          go_quiet (fail)
          cases z2 <;> cases z7
          all_goals try simp only [Bool.not_true, Bool.not_false] at hzn
          all_goals go_wp2_with fail
          all_goals first
            | (go_ret; exact HRES.out _ _ (HBAD.out (HKB.out.trans rfl)) (HBLL.out.trans (by first | exact drew_below _ | exact (drew_below nd0).trans (drew_below _))))
            | (go_roundg (ks.length - (j + 1))
               case measure => omega
               case rel => exact ⟨j + 1, by omega, rfl, by go_num, ⟨_, rfl⟩, HAN.out.trans ((congrArg not HKB.out).trans rfl)⟩)
        · have hjI : ¬ (j : Int) < (ks.length : Int) := by omega
          have HV : Hid (Tx.famRB ns i = true) := Lib.hid (by rw [HOKL.out j (by omega)]; exact HALL.out)
          go_wp2_with fail
          go_ret
          exact HRES.out _ _ HV.out (HBLL.out.trans (drew_below nd0))
    obtain ⟨p, hp1, hpi, hpd, -⟩ := Tx.par_kid (Tx.deep_of HP.out) HI.out (by rw [← HDP.out]; exact hd)
    have hpn : p < ns.length := by have := HI.out; omega
    have HPI := Lib.hid (Tx.parI_some hp1)
    have HPB : Hid (Tx.parBad ns i = (!(Tx.kd ns p == 5) || !((Tx.kidsV ns p).length == 1))) := Lib.hid (by unfold Tx.parBad; rw [hp1])
    have hg := HNK.out w4 (OWN.out w4 HB3.out).2.2 p hpn
    obtain ⟨kp, hkp⟩ : ∃ kp, kp = Tx.kd ns p := ⟨_, rfl⟩
    obtain ⟨ps, hps⟩ : ∃ ps, ps = Tx.kidsV ns p := ⟨_, rfl⟩
    have hpsl : ps.length ≤ 1000000 := by rw [hps]; have := Tx.kidsV_len ns p hpn; omega
    rw [← hkp] at hg HPB
    rw [← hps] at HPB
    have hpI : (p : Int) < (ns.length : Int) := by omega
    have hp0 : (0 : Int) ≤ (p : Int) := by omega
    have HPC : Hid (∀ (W : World), Below Z w W → Calls Tryz.prog 51 #[.agg #[.slice (some ⟨bT, off, none⟩) ns.length c], .int .i64 p] W (RetNs ps W)) := Lib.hid fun W q => by
      rw [hps]
      rw [HZ.out] at q
      have hbd := own_bounds (HP.out p hpn)
      exact r2Kids_node ns W _ c p ((HR.out.below q).more q.size) hn hpn (by unfold Tx.dp; omega) (by unfold Tx.dp; omega)
    rw [HPI.out]
    clear hp1 hpi hpd hkp hps
    by_cases hk5 : kp = 5
    case neg =>
      have t5 : (kp != 5) = true := by simp [hk5]
      have HV : Hid (Tx.famRB ns i = false) := Lib.hid (by rw [HV1.out, HPB.out, decide_eq_true hd]; simp [hk5])
      clear hk5
      go_wp2_with fail
      go_ret
      exact HRES.out _ _ HV.out HB3.out
    have t5 : (kp != 5) = false := by simp [hk5]
    have HPB2 : Hid (Tx.parBad ns i = !(ps.length == 1)) := Lib.hid (by rw [HPB.out, hk5]; rfl)
    clear hk5
    go_wp2_with fail
    refine (HPC.out w4 (OWN.out w4 HB3.out).2.2).mono ?_
    rintro e w5 hret
    obtain ⟨Ap, cp, rfl, hb5, -⟩ := hret.rd
    have hb5z : Below (Z + 2) W2 w5 := HB3.out.trans (hb5.mono hz3)
    have HB5 := Lib.hid hb5z
    have HRL : Hid (RdS w5 w5.heap.size 1 encInt (.slice Ak ks.length ck) (ks.map Int.ofNat)) := Lib.hid ((HRK.out.below hb5).more hb5.size)
    have hw25 := OWN.out w5 hb5z
    have y5 := hw25.2.1
    rw [HKQ.out] at y5
    clear x0 z0 z1 z2 z3 z4 z5 z6 z7 hret hb5 hb5z
    obtain ⟨z0, z1, z2, z3, z4, z5, z6, z7⟩ := box8_cells y5
    have x0 := bx_cell hw25.1
    clear y5 hw25
    by_cases hp1 : ps.length = 1
    case neg =>
      have t1 : ((ps.length : Int) != 1) = true := by simp; omega
      have HV : Hid (Tx.famRB ns i = false) := Lib.hid (by rw [HV1.out, HPB2.out, decide_eq_true hd]; simp [hp1])
      clear hp1
      go_wp2_with fail
      go_ret
      exact HRES.out _ _ HV.out HB5.out
    have t1 : ((ps.length : Int) != 1) = false := by simp; omega
    have HFV : Hid (Tx.famRB ns i = ks.all fun k => !Tx.kidBad 7 (Tx.kd ns k)) := Lib.hid (by rw [HV1.out, HPB2.out, hp1]; simp)
    clear hp1
    obtain ⟨WL, hWL⟩ : ∃ WL, WL = w5 := ⟨_, rfl⟩
    rw [← hWL] at x0 z0 z1 z2 z3 z4 z5 z6 z7 HRL HB5 ⊢
    have HBLL := HB5
    clear hWL
    have HOKL : Hid (∀ (k : Nat), ks.length ≤ k → Tx.famRB ns i = (ks.take k).all fun k => !Tx.kidBad 7 (Tx.kd ns k)) := Lib.hid fun k hk => by
      rw [HFV.out, List.take_of_length_le hk]
    go_upto_region 15 with fail
    clear hm1I hm2I
    go_wp2_with fail
    go_loopg [11] ks.length (fun g v wr => ∃ j : Nat, j ≤ ks.length ∧ g = ks.length - j ∧ v = .int .i64 (j : Int) ∧ (∃ n, wr = WL.drewN n) ∧ ((ks.take j).all fun k => !Tx.kidBad 7 (Tx.kd ns k)) = true)
    case atStart => exact ⟨0, Nat.zero_le _, rfl, rfl, ⟨0, rfl⟩, rfl⟩
    case round =>
      obtain ⟨j, hj, rfl, rfl, ⟨nd0, rfl⟩, hall⟩ := hrel
      have HALL := Lib.hid hall
      clear hall
      by_cases hlt : j < ks.length
      · obtain ⟨q, hq⟩ : ∃ q, ks[j]? = some q := ⟨_, List.getElem?_eq_getElem hlt⟩
        have hqn : q < ns.length := HKIN.out j q hq
        obtain ⟨bk, ok, hA, hbk, hck⟩ := ints_cell HRL.out (k := j) (x := (q : Int)) (by rw [List.getElem?_map, hq]; rfl)
        subst hA
        have g0 := HNK.out WL (OWN.out WL HBLL.out).2.2 q hqn
        obtain ⟨kq, hkq⟩ : ∃ kq, kq = Tx.kd ns q := ⟨_, rfl⟩
        rw [← hkq] at g0
        have hjI : (j : Int) < (ks.length : Int) := by omega
        have hj0 : (0 : Int) ≤ (j : Int) := by omega
        have hqI : (q : Int) < (ns.length : Int) := by omega
        have hq0 : (0 : Int) ≤ (q : Int) := by omega
        have HAN : Hid (((ks.take (j + 1)).all fun k => !Tx.kidBad 7 (Tx.kd ns k)) = !Tx.kidBad 7 kq) := Lib.hid (by rw [Tx.all_take_succ hq, HALL.out, hkq]; rfl)
        have HBAD : Hid (Tx.kidBad 7 kq = true → Tx.famRB ns i = false) := Lib.hid fun hb => by
          rw [HFV.out]
          exact Tx.all_bad hq (by rw [← hkq, hb]; rfl)
        clear hq hkq
        obtain ⟨z1, hz1⟩ : ∃ z, (kq == 1) = z := ⟨_, rfl⟩
        obtain ⟨z2, hz2⟩ : ∃ z, (kq == 2) = z := ⟨_, rfl⟩
        obtain ⟨z3, hz3⟩ : ∃ z, (kq == 3) = z := ⟨_, rfl⟩
        obtain ⟨z7, hz7⟩ : ∃ z, (kq == 7) = z := ⟨_, rfl⟩
        have hzn : (kq != 1) = !z1 := by rw [← hz1]; rfl
        have HKB : Hid (Tx.kidBad 7 kq = ((z2 || z7))) := Lib.hid (by subst hz1; subst hz2; subst hz3; subst hz7; unfold Tx.kidBad; simp)
        go_upto_region 18 with fail
        go_quiet (fail)
        cases z2 <;> cases z7
        all_goals try simp only [Bool.not_true, Bool.not_false] at hzn
        all_goals go_wp2_with fail
        all_goals first
          | (go_ret; exact HRES.out _ _ (HBAD.out (HKB.out.trans rfl)) (HBLL.out.trans (by first | exact drew_below _ | exact (drew_below nd0).trans (drew_below _))))
          | (go_roundg (ks.length - (j + 1))
             case measure => omega
             case rel => exact ⟨j + 1, by omega, rfl, by go_num, ⟨_, rfl⟩, HAN.out.trans ((congrArg not HKB.out).trans rfl)⟩)
      · have hjI : ¬ (j : Int) < (ks.length : Int) := by omega
        have HV : Hid (Tx.famRB ns i = true) := Lib.hid (by rw [HOKL.out j (by omega)]; exact HALL.out)
        go_wp2_with fail
        go_ret
        exact HRES.out _ _ HV.out (HBLL.out.trans (drew_below nd0))
end Go.Proofs.YtenmkbpdkfhbjaaGreat
