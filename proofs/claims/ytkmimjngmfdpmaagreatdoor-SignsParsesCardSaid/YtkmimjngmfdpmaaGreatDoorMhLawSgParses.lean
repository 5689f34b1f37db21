/- ostraconref01.Parse. Made by gen_rparse1.py. SignsParses: the law's walk. -/
import Derived.Test.YtkmimjngmfdpmaaGreatDoorMhSgRLine
import Derived.Test.YtkmimjngmfdpmaaGreatDoorMgSgParse
import Derived.Test.YtkmimjngmfdpmaaGreatDoorMgSgRCheck
import Derived.Test.YtkmimjngmfdpmaaGreatDoorMgSgSame
import Derived.Test.YtkmimjngmfdpmaaGreatDoorMgShelfF
import Derived.Test.YtkmimjngmfdpmaaGreatDoorMgSgWorks
namespace Go.Proofs.YtkmimjngmfdpmaaGreatDoor
open Go Go.RowKit

theorem Sg.headV_not {t : List UInt8} (h : (Lib.split t [32]).length ≠ 2) : Sg.headV t = none := by
  unfold Sg.headV
  generalize Lib.split t [32] = s at h
  rcases s with _ | ⟨a, _ | ⟨b, _ | ⟨d, r⟩⟩⟩
  · rfl
  · rfl
  · exact absurd rfl h
  · rfl
theorem Sg.headV_two {t a b : List UInt8} (h : Lib.split t [32] = [a, b]) : Sg.headV t = if a = Sg.perB ∧ Lx.numB b 3 = true then some (Lx.numV b 3) else none := by
  unfold Sg.headV
  rw [h]
theorem Lx.lines_eq (t : List UInt8) : Lx.linesV t = if (Lx.pst 10 t).2 = [] then ((Lx.pst 10 t).1, true) else ((Lx.pst 10 t).1 ++ [(Lx.pst 10 t).2], false) := by
  unfold Lx.linesV
  rw [Lx.pst_split]
  simp
set_option maxRecDepth 100000 in
set_option maxHeartbeats 16000000 in
theorem r1Parse_any (t : ByteArray) (w : World) (ht : t.size ≤ 1000000) : Calls Tryz.prog 22 #[.string t] w (RetParse (Sg.parseV t.data.toList) w) := by
  obtain ⟨W0, hW0⟩ : ∃ W0, W0 = w.alloc (.cells #[.int .i64 0, .slice none 0 0] 24) := ⟨_, rfl⟩
  have hb0 : Below w.heap.size w W0 := by rw [hW0]; exact (Below.refl _ _).alloc (Nat.le_refl _) _
  have hr0 : W0.heap[w.heap.size]? = some (.cells #[.int .i64 0, .slice none 0 0] 24 (0, 0)) := by rw [hW0]; exact heap_alloc_new _ _
  have hs0 : w.heap.size < W0.heap.size := (Array.getElem?_eq_some_iff.1 hr0).1
  have HB0 := Lib.hid hb0
  have HR0 := Lib.hid hr0
  have HW0 := Lib.hid hW0
  have htl : t.data.toList.length = t.size := rfl
  by_cases hbig : 65536 < t.size
  · have HN : Hid (Sg.parseV t.data.toList = (⟨0, []⟩, 0, 2)) := Lib.hid (by unfold Sg.parseV; rw [if_pos (by omega)])
    have hbI : (65536 : Int) < (t.size : Int) := by omega
    have c0 : W0.cell? ⟨w.heap.size, 0, none⟩ = some (.int .i64 0) := by simp [World.cell?, hr0]
    have c1 : W0.cell? ⟨w.heap.size, 1, none⟩ = some (.slice none 0 0) := by simp [World.cell?, hr0]
    have z0 : W0.frozen? ⟨w.heap.size, 0, none⟩ = false := by simp [World.frozen?, hr0]
    have z1 : W0.frozen? ⟨w.heap.size, 1, none⟩ = false := by simp [World.frozen?, hr0]
    clear hb0 hr0 hW0 hbig htl
    go_enter Tryz.func22, Tryz.ntmps22
    go_upto_region 1 with fail
    rw [← HW0.out]
    go_wp2_with fail
    refine bodyPost_ret (v := .tuple #[.agg #[.int .i64 0, .slice none 0 0], .int .i64 0, .int .i64 2]) (by simp [results, Tryz.results22, go_sem, c0, c1]) rfl ?_
    exact RetParse.zero HN.out ((HB0.out.setCell (Nat.le_refl _) _).setCell (Nat.le_refl _) _)
  have HPV : Hid (Sg.parseV t.data.toList = Sg.parseL (Lx.pst 10 t.data.toList).1 (Lx.pst 10 t.data.toList).2) := Lib.hid (by unfold Sg.parseV; rw [if_neg (by omega)])
  have hbI : ¬ (65536 : Int) < (t.size : Int) := by omega
  have HLN := Lib.hid (r1Lines_any t W0 ht)
  rw [Lx.lines_eq] at HLN
  have hle : ∀ x ∈ (Lx.pst 10 t.data.toList).1 ++ [(Lx.pst 10 t.data.toList).2], x.length ≤ 65536 := fun x hx => by
    rw [← Lx.pst_split] at hx
    have := Sg.split_leG hx
    omega
  have hpl := Lx.pst_count 10 t.data.toList
  obtain ⟨P, hP⟩ : ∃ P, P = (Lx.pst 10 t.data.toList).1 := ⟨_, rfl⟩
  obtain ⟨r, hr⟩ : ∃ r, r = (Lx.pst 10 t.data.toList).2 := ⟨_, rfl⟩
  rw [← hP, ← hr] at HPV hle HLN
  rw [← hP] at hpl
  have hPl : P.length ≤ 65536 := by omega
  obtain ⟨⟨LL, en⟩, hLL⟩ : ∃ q, q = (if r = [] then (P, true) else (P ++ [r], false)) := ⟨_, rfl⟩
  rw [← hLL] at HLN
  have hfacts : (en = true ∧ r = [] ∧ LL = P) ∨ (en = false ∧ r ≠ [] ∧ LL = P ++ [r]) := by
    by_cases h : r = []
    · rw [if_pos h] at hLL; cases hLL; exact .inl ⟨rfl, h, rfl⟩
    · rw [if_neg h] at hLL; cases hLL; exact .inr ⟨rfl, h, rfl⟩
  have HF := Lib.hid hfacts
  have HLE : Hid (∀ x ∈ LL, x.length ≤ 65536) := Lib.hid fun x hx => by
    rcases hfacts with ⟨-, -, e⟩ | ⟨-, -, e⟩
    · rw [e] at hx; exact hle x (by simp [hx])
    · rw [e] at hx; exact hle x hx
  have HPLE : Hid (∀ x ∈ P, x.length ≤ 65536) := Lib.hid fun x hx => hle x (by simp [hx])
  have hLn : P.length ≤ LL.length ∧ LL.length ≤ P.length + 1 := by
    rcases hfacts with ⟨-, -, e⟩ | ⟨-, -, e⟩
    · rw [e]; omega
    · rw [e]; simp
  generalize Sg.parseV t.data.toList = res at HPV ⊢
  obtain ⟨i1, hi1, hz1, hs1', hb1'⟩ := info_parts info_Sign
  clear hb0 hr0 hW0 hbig htl hle hpl hP hr hLL hfacts ht
  go_enter Tryz.func22, Tryz.ntmps22
  go_upto_region 1 with fail
  rw [← HW0.out]
  go_wp2_with fail
  refine HLN.out.mono ?_
  rintro e w1 ⟨v, l, rfl, hrd, hq, hb1⟩
  have hln : l.length = LL.length := by rw [← hq, List.length_map]
  obtain ⟨A, c, rfl, hlc, hc63⟩ := rds_form hrd
  have HRD := Lib.hid hrd
  have HQ := Lib.hid hq
  have HB1 : Hid (Below w.heap.size w w1) := Lib.hid (HB0.out.trans (hb1.mono HB0.out.size))
  have hr1 := (hb1.block _ hs0).trans HR0.out
  have HR1 := Lib.hid hr1
  have hs1 : w.heap.size < w1.heap.size := (Array.getElem?_eq_some_iff.1 hr1).1
  clear hrd hq hb1
  by_cases hl0 : l.length = 0
  · have HN : Hid (res = (⟨0, []⟩, 1, 4)) := Lib.hid (by
      rw [HPV.out]
      rcases HF.out with ⟨-, h2, h3⟩ | ⟨-, -, h3⟩
      · have : P = [] := by rw [h3] at hln; exact List.length_eq_zero_iff.1 (by omega)
        rw [this]
        exact Sg.parse_open (l := []) (fun j hj => absurd hj (Nat.not_lt_zero j)) (.inr rfl)
      · rw [h3] at hln; simp at hln; omega)
    have l0I : ((l.length : Int) == 0) = true := by rw [beq_iff_eq]; omega
    have c0 : w1.cell? ⟨w.heap.size, 0, none⟩ = some (.int .i64 0) := by simp [World.cell?, hr1]
    have c1 : w1.cell? ⟨w.heap.size, 1, none⟩ = some (.slice none 0 0) := by simp [World.cell?, hr1]
    have z0 : w1.frozen? ⟨w.heap.size, 0, none⟩ = false := by simp [World.frozen?, hr1]
    have z1 : w1.frozen? ⟨w.heap.size, 1, none⟩ = false := by simp [World.frozen?, hr1]
    clear hl0 hln hLn hr1
    go_wp2_with fail
    refine bodyPost_ret (v := .tuple #[.agg #[.int .i64 0, .slice none 0 0], .int .i64 1, .int .i64 4]) (by simp [results, Tryz.results22, go_sem, c0, c1]) rfl ?_
    exact RetParse.zero HN.out ((HB1.out.setCell (Nat.le_refl _) _).setCell (Nat.le_refl _) _)
  have l0I : ((l.length : Int) == 0) = false := by rw [beq_eq_false_iff_ne]; omega
  obtain ⟨b, off, rfl, hbb, hcell⟩ := words_ex HRD.out (by omega)
  have HC := Lib.hid hcell
  obtain ⟨w2, hw2⟩ : ∃ w2, w2 = w1.alloc (.cells #[.int .i64 0, .slice none 0 0] 24) := ⟨_, rfl⟩
  obtain ⟨g1, hg1⟩ : ∃ g, g = w1.heap.size := ⟨_, rfl⟩
  have hb2 : Below g1 w1 w2 := by rw [hw2, hg1]; exact (Below.refl _ _).alloc (Nat.le_refl _) _
  have hx2 : w2.heap[g1]? = some (.cells #[.int .i64 0, .slice none 0 0] 24 (0, 0)) := by rw [hw2, hg1]; exact heap_alloc_new _ _
  have hs2 : w2.heap.size = g1 + 1 := by rw [hw2, hg1]; simp
  have HB2 := Lib.hid hb2
  have HX2 := Lib.hid hx2
  have HW2 := Lib.hid hw2
  have HS2 := Lib.hid hs2
  have HG1 := Lib.hid hg1
  have hgw : w.heap.size < g1 := by omega
  have hbg : b < g1 := by omega
  have HWB : Hid (∀ W, Below g1 w1 W → Below w.heap.size w W) := Lib.hid fun W hW => HB1.out.trans (hW.mono (by omega))
  have HRB : Hid (∀ W, Below g1 w1 W → W.heap[w.heap.size]? = some (.cells #[.int .i64 0, .slice none 0 0] 24 (0, 0))) := Lib.hid fun W hW => (hW.block _ hgw).trans HR1.out
  have HCW : Hid (∀ (k : Nat) (s : ByteArray) (W : World), l[k]? = some s → Below g1 w1 W → W.cell? ⟨b, off + k, none⟩ = some (.string s)) := Lib.hid fun k s W h hW => (hW.cell (p := ⟨b, off + k, none⟩) hbg).trans (HC.out k s h)
  obtain ⟨n, hn⟩ : ∃ n, n = l.length := ⟨_, rfl⟩
  have HNL := Lib.hid hn
  have hn1 : 1 ≤ n := by omega
  have hn2 : n ≤ 65537 := by omega
  have HNP : Hid (P.length ≤ n ∧ n ≤ P.length + 1) := Lib.hid (by omega)
  have HLW : Hid (∀ (k : Nat) (s : ByteArray), l[k]? = some s → (k < P.length ∧ P[k]? = some s.data.toList) ∨ (k = P.length ∧ en = false ∧ r ≠ [] ∧ n = P.length + 1)) := Lib.hid fun k s h => by
    have h1 : LL[k]? = some s.data.toList := by rw [← HQ.out, List.getElem?_map, h]; rfl
    rcases HF.out with ⟨-, -, h3⟩ | ⟨h2, h4, h3⟩
    · rw [h3] at h1; exact .inl ⟨(List.getElem?_eq_some_iff.1 h1).1, h1⟩
    · rw [h3] at h1
      by_cases hk : k < P.length
      · rw [List.getElem?_append_left hk] at h1; exact .inl ⟨hk, h1⟩
      · have h5 := (List.getElem?_eq_some_iff.1 h1).1
        simp at h5
        have h6 : LL.length = P.length + 1 := by rw [h3]; simp
        exact .inr ⟨by omega, h2, h4, by omega⟩
  rw [← hn] at l0I ⊢
  clear hl0 hln hLn hr1 hw2 hb2 hx2 hs2 hg1 hbb hcell hn
  go_upto_region 7 with fail
  rw [← HW2.out, ← HG1.out]
  clear l0I
  go_wp2_with fail
  go_loopg [8] n (fun g i wr => ∃ (k : Nat) (p : Int) (vv : Value) (ss : List Sg.Sign), k ≤ P.length ∧ k ≤ n ∧ g = n - k ∧ i = .int .i64 k ∧ Below g1 w1 wr ∧ wr.heap[g1]? = some (.cells #[.int .i64 p, vv] 24 (0, 0)) ∧ OwnG KSign 67 wr (g1 + 1) vv ss ∧ ss = Sg.signsL (P.take k) ∧ (0 < k → p = Sg.periodsL P) ∧ ∀ j, j < k → Sg.okLine P j = true)
  case atStart => exact ⟨0, 0, .slice none 0 0, [], Nat.zero_le _, Nat.zero_le _, rfl, rfl, HB2.out, HX2.out, OwnG.nil _ _ _, rfl, fun h => absurd h (Nat.lt_irrefl _), fun j hj => absurd hj (Nat.not_lt_zero j)⟩
  case round =>
    obtain ⟨k, p, vv, ss, hk, hkm, rfl, rfl, hbel, hx, hown, hss, hper, hall⟩ := hrel
    obtain ⟨Av, cv, rfl⟩ := hown.form
    have HBK := Lib.hid hbel
    have HXK := Lib.hid hx
    have HOK := Lib.hid hown
    have HSS := Lib.hid hss
    have HPER := Lib.hid hper
    have HALL := Lib.hid hall
    have hszr : g1 < wr.heap.size := (Array.getElem?_eq_some_iff.1 hx).1
    have hsl : ss.length ≤ k := by rw [hss]; exact Sg.signsL_len _ _
    have hrr := HRB.out wr hbel
    have c0 : wr.cell? ⟨w.heap.size, 0, none⟩ = some (.int .i64 0) := by simp [World.cell?, hrr]
    have c1 : wr.cell? ⟨w.heap.size, 1, none⟩ = some (.slice none 0 0) := by simp [World.cell?, hrr]
    have z0 : wr.frozen? ⟨w.heap.size, 0, none⟩ = false := by simp [World.frozen?, hrr]
    have z1 : wr.frozen? ⟨w.heap.size, 1, none⟩ = false := by simp [World.frozen?, hrr]
    have o0 : wr.cell? ⟨g1, 0, none⟩ = some (.int .i64 p) := by simp [World.cell?, hx]
    have o1 : wr.cell? ⟨g1, 1, none⟩ = some (.slice Av ss.length cv) := by simp [World.cell?, hx]
    have q0 : wr.frozen? ⟨g1, 0, none⟩ = false := by simp [World.frozen?, hx]
    have q1 : wr.frozen? ⟨g1, 1, none⟩ = false := by simp [World.frozen?, hx]
    clear hbel hx hown hss hper hall hrr
    by_cases hlt : k < n
    · obtain ⟨s, hs⟩ : ∃ s, l[k]? = some s := ⟨_, List.getElem?_eq_getElem (by have := HNL.out; omega)⟩
      have f0 := HCW.out k s wr hs HBK.out
      have hkI : (0 : Int) ≤ (k : Int) := by omega
      have hkJ : (k : Int) < (n : Int) := by omega
      have hkW : (k : Int) + 1 ≤ 65538 := by omega
      have hcs := HLW.out k s hs
      have hsz : s.size ≤ 1000000 := by
        have h1 : s.data.toList ∈ LL := by rw [← HQ.out]; exact List.mem_map_of_mem (List.mem_of_getElem? hs)
        have := HLE.out _ h1
        have e : s.data.toList.length = s.size := rfl
        omega
      clear hs
      rcases hcs with ⟨hkP, hPk⟩ | ⟨hkP, hen, hrne, hnP⟩
      case inr =>
        have HN : Hid (res = (⟨0, []⟩, (k : Int) + 1, 4)) := Lib.hid (by
          rw [HPV.out, hkP]
          exact Sg.parse_open (fun j hj => HALL.out j (by omega)) (.inl hrne))
        have hkE : ((k : Int) == (n : Int) - 1) = true := by rw [beq_iff_eq]; omega
        clear hkP hrne hnP
        subst hen
        go_wp2_with fail
        refine bodyPost_ret (v := .tuple #[.agg #[.int .i64 0, .slice none 0 0], .int .i64 ((k : Int) + 1), .int .i64 4]) (by simp [results, Tryz.results22, go_sem, c0, c1]) rfl ?_
        exact RetParse.zero HN.out (((HWB.out _ HBK.out).setCell (Nat.le_refl _) _).setCell (Nat.le_refl _) _)
      have hcond : ((k : Int) == (n : Int) - 1) = false ∨ (((k : Int) == (n : Int) - 1) = true ∧ en = true) := by
        by_cases h : (k : Int) = (n : Int) - 1
        · refine .inr ⟨by rw [beq_iff_eq]; exact h, ?_⟩
          rcases HF.out with ⟨h1, -, -⟩ | ⟨-, -, h3⟩
          · exact h1
          · have h4 : LL.length = P.length + 1 := by rw [h3]; simp
            have h5 : l.length = LL.length := by rw [← HQ.out, List.length_map]
            have := HNL.out
            omega
        · exact .inl (by rw [beq_eq_false_iff_ne]; exact h)
      have HPK := Lib.hid hPk
      have HBAD : Hid (Sg.okLine P k = false → res = (⟨0, []⟩, (k : Int) + 1, 4)) := Lib.hid fun h => by
        rw [HPV.out]
        exact Sg.parse_bad hkP HALL.out h
      clear hPk
      rcases Nat.eq_zero_or_pos k with hk0 | hk0
      · have hk0I : ((k : Int) == 0) = true := by rw [beq_iff_eq]; omega
        have HK0 := Lib.hid hk0
        have f00 : wr.cell? ⟨b, off, none⟩ = some (.string s) := by rw [hk0] at f0; simpa using f0
        have HSP := Lib.hid (r1Split_any s 32 wr hsz)
        have HB0' : Hid (Sg.headV s.data.toList = none → res = (⟨0, []⟩, 1, 4)) := Lib.hid fun h => by
          have h1 := HPK.out
          have := HBAD.out (by rw [HK0.out] at h1 ⊢; rw [Sg.okLine_head h1, h]; rfl)
          have e : (k : Int) + 1 = 1 := by have := HK0.out; omega
          rw [e] at this
          exact this
        have h0n : (0 : Int) < (n : Int) := by omega
        clear hk0
        rcases hcond with hc | ⟨hc, rfl⟩
        all_goals
          go_wp2_with fail
          refine HSP.out.mono ?_
          rintro e w3 ⟨v3, m, rfl, hown3, hq3, hb3⟩
          have hmn : m.length = (Lib.split s.data.toList [32]).length := by rw [← hq3, List.length_map]
          have HRM := Lib.hid (rds_of_own len_str hown3)
          obtain ⟨A3, c3, rfl⟩ := own_form hown3
          have HBR := Lib.hid hb3
          have HB3 : Hid (Below g1 w1 w3) := Lib.hid (HBK.out.trans (hb3.mono (by omega)))
          have hx3 := (hb3.block g1 hszr).trans HXK.out
          have HX3 := Lib.hid hx3
          have HQ3 := Lib.hid hq3
          have hs3 := hb3.size
          have hr3 := HRB.out w3 HB3.out
          clear hown3 hb3 hq3 f0 f00 c0 c1 z0 z1 o0 o1 q0 q1
          have c0 : w3.cell? ⟨w.heap.size, 0, none⟩ = some (.int .i64 0) := by simp [World.cell?, hr3]
          have c1 : w3.cell? ⟨w.heap.size, 1, none⟩ = some (.slice none 0 0) := by simp [World.cell?, hr3]
          have z0 : w3.frozen? ⟨w.heap.size, 0, none⟩ = false := by simp [World.frozen?, hr3]
          have z1 : w3.frozen? ⟨w.heap.size, 1, none⟩ = false := by simp [World.frozen?, hr3]
          have o0 : w3.cell? ⟨g1, 0, none⟩ = some (.int .i64 p) := by simp [World.cell?, hx3]
          have o1 : w3.cell? ⟨g1, 1, none⟩ = some (.slice Av ss.length cv) := by simp [World.cell?, hx3]
          have q0 : w3.frozen? ⟨g1, 0, none⟩ = false := by simp [World.frozen?, hx3]
          have q1 : w3.frozen? ⟨g1, 1, none⟩ = false := by simp [World.frozen?, hx3]
          clear hr3
          by_cases h2 : m.length = 2
          case neg =>
            have HN := Lib.hid (HB0'.out (Sg.headV_not (by omega)))
            have j1 : ((m.length : Int) == 2) = false := by rw [beq_eq_false_iff_ne]; omega
            have j2 : ¬ (m.length : Int) = 2 := by omega
            clear hmn h2 hx3
            go_wp2_with fail
            refine bodyPost_ret (v := .tuple #[.agg #[.int .i64 0, .slice none 0 0], .int .i64 1, .int .i64 4]) (by simp [results, Tryz.results22, go_sem, c0, c1]) rfl ?_
            exact RetParse.zero HN.out (((HWB.out _ HB3.out).setCell (Nat.le_refl _) _).setCell (Nat.le_refl _) _)
          obtain ⟨x, y, rfl⟩ : ∃ x y, m = [x, y] := by
            match m, h2 with
            | [x, y], _ => exact ⟨x, y, rfl⟩
          obtain ⟨b3, off3, rfl, hbm, hcm⟩ := words_ex HRM.out (by simp)
          have e0 : w3.cell? ⟨b3, off3, none⟩ = some (.string x) := by simpa using hcm 0 x rfl
          have e1 : w3.cell? ⟨b3, off3 + 1, none⟩ = some (.string y) := hcm 1 y rfl
          have HSPL : Hid (Lib.split s.data.toList [32] = [x.data.toList, y.data.toList]) := Lib.hid HQ3.out.symm
          have hys : y.size ≤ 1000000 := by
            have h3 := Sg.split_leG (show y.data.toList ∈ Lib.split s.data.toList [32] by rw [HSPL.out]; simp)
            have e1 : y.data.toList.length = y.size := rfl
            have e2 : s.data.toList.length = s.size := rfl
            omega
          have HNM := Lib.hid (r1Number_any y 3 w3 hys (by decide) (by decide))
          have HHV := Lib.hid (Sg.headV_two HSPL.out)
          obtain ⟨nv, hnv⟩ : ∃ nv, nv = Lx.numV y.data.toList 3 := ⟨_, rfl⟩
          obtain ⟨nb, hnb⟩ : ∃ nb, nb = Lx.numB y.data.toList 3 := ⟨_, rfl⟩
          rw [← hnv, ← hnb] at HNM HHV
          clear hnv hnb hys hcm h2 hmn
          by_cases hxp : x.data.toList = Sg.perB
          case neg =>
            have HN := Lib.hid (HB0'.out (by rw [HHV.out, if_neg (fun q => hxp q.1)]))
            have hxe : (x.toList == [112, 101, 114, 105, 111, 100, 115]) = false := by rw [beq_eq_false_iff_ne, Lib.toList_data]; exact hxp
            clear hxp hx3
            go_wp2_with fail
            refine bodyPost_ret (v := .tuple #[.agg #[.int .i64 0, .slice none 0 0], .int .i64 1, .int .i64 4]) (by simp [results, Tryz.results22, go_sem, c0, c1]) rfl ?_
            exact RetParse.zero HN.out (((HWB.out _ HB3.out).setCell (Nat.le_refl _) _).setCell (Nat.le_refl _) _)
          have hxe : x.toList = [112, 101, 114, 105, 111, 100, 115] := by rw [Lib.toList_data]; exact hxp
          have HXP := Lib.hid hxp
          clear hxp
          cases nb
          · have HN := Lib.hid (HB0'.out (by rw [HHV.out, if_neg (fun q => by cases q.2)]))
            clear hx3
            go_wp2_with fail
            refine HNM.out.mono ?_
            rintro e w4 ⟨rfl, rfl⟩
            go_wp2_with fail
            refine bodyPost_ret (v := .tuple #[.agg #[.int .i64 0, .slice none 0 0], .int .i64 1, .int .i64 4]) (by simp [results, Tryz.results22, go_sem, c0, c1]) rfl ?_
            exact RetParse.zero HN.out (((HWB.out _ HB3.out).setCell (Nat.le_refl _) _).setCell (Nat.le_refl _) _)
          have hok : Sg.headV s.data.toList = some nv := by rw [HHV.out, if_pos ⟨HXP.out, rfl⟩]
          obtain ⟨w5, hw5⟩ : ∃ w5, w5 = w3.setCell ⟨g1, 0, none⟩ (.int .i64 nv) := ⟨_, rfl⟩
          have HX5 : Hid (w5.heap[g1]? = some (.cells #[.int .i64 nv, .slice Av ss.length cv] 24 (0, 0))) := Lib.hid (by rw [hw5]; exact gset hx3 _)
          have HB5 : Hid (Below g1 w1 w5) := Lib.hid (by rw [hw5]; exact HB3.out.setCell (p := ⟨g1, 0, none⟩) (Nat.le_refl _) _)
          have HO5 : Hid (OwnG KSign 67 w5 (g1 + 1) (.slice Av ss.length cv) ss) := Lib.hid (by rw [hw5]; exact (HOK.out.kept HBR.out).aside (grown_set _ _ _) (by intro q hq; cases hq; show g1 < _; omega))
          have HW5 := Lib.hid hw5
          have HNX : Hid (ss = Sg.signsL (P.take (k + 1)) ∧ nv = Sg.periodsL P ∧ ∀ j, j < k + 1 → Sg.okLine P j = true) := Lib.hid (by
            have hPk0 := HPK.out
            rw [HK0.out] at hPk0
            refine ⟨?_, ?_, fun j hj => ?_⟩
            · rw [HSS.out, HK0.out, Sg.signsL_one]; rfl
            · unfold Sg.periodsL
              rw [hPk0]
              show nv = (Sg.headV s.data.toList).getD 0
              rw [hok]; rfl
            · have e : j = 0 := by have := HK0.out; omega
              rw [e, Sg.okLine_head hPk0, hok]; rfl)
          clear hok hx3 hw5
          go_wp2_with fail
          refine HNM.out.mono ?_
          rintro e w4 ⟨rfl, rfl⟩
          go_wp2_with fail
          rw [← HW5.out]
          go_roundg (n - (k + 1))
          case measure => omega
          case rel => exact ⟨k + 1, nv, .slice Av ss.length cv, ss, by omega, by omega, rfl, by go_num, HB5.out, HX5.out, HO5.out, HNX.out.1, fun _ => HNX.out.2.1, HNX.out.2.2⟩
      · have hk0I : ((k : Int) == 0) = false := by rw [beq_eq_false_iff_ne]; omega
        have HKP := Lib.hid hk0
        have HSC := Lib.hid (r1line_any s wr hsz)
        obtain ⟨q, hq⟩ : ∃ q, q = Sg.signL (Lib.split s.data.toList [32]) := ⟨_, rfl⟩
        rw [← hq] at HSC
        have HQS0 := Lib.hid hq
        have HOKL : Hid (Sg.okLine P k = q.isSome) := Lib.hid (by rw [Sg.okLine_sign hk0 HPK.out, ← hq])
        clear hq hk0
        rcases hcond with hc | ⟨hc, rfl⟩
        all_goals
          go_wp2_with fail
          refine HSC.out.mono ?_
          rintro e wq ⟨c', a, b', ev, A', n', cp, rfl, hbq, hqs⟩
          have HQS := Lib.hid hqs
          have hsq := hbq.size
          obtain ⟨w3, hw3⟩ : ∃ w3, w3 = wq.alloc (.cells #[.string c', .int .i64 a, .int .i64 b', .bool ev, .slice A' n' cp] 67) := ⟨_, rfl⟩
          have hbA : Below wq.heap.size wq w3 := by rw [hw3]; exact (Below.refl _ _).alloc (Nat.le_refl _) _
          have hv3 : w3.heap[wq.heap.size]? = some (.cells #[.string c', .int .i64 a, .int .i64 b', .bool ev, .slice A' n' cp] 67 (0, 0)) := by rw [hw3]; exact heap_alloc_new _ _
          have hs3 : wq.heap.size < w3.heap.size := by rw [hw3]; simp
          have hbr3 : Below wr.heap.size wr w3 := hbq.trans (hbA.mono hsq)
          have HBR3 := Lib.hid hbr3
          have HB3 : Hid (Below g1 w1 w3) := Lib.hid (HBK.out.trans (hbr3.mono (by omega)))
          have hx3 := (hbr3.block g1 hszr).trans HXK.out
          have HX3 := Lib.hid hx3
          have hr3 := HRB.out w3 HB3.out
          have HW3 := Lib.hid hw3
          have HVQ := Lib.hid fun (j : Nat) (hj : j < wq.heap.size) => hbA.block j hj
          clear hqs hbq hw3 hbA hbr3
          go_upto_region 21 with fail
          rw [← HW3.out]
          clear f0 c0 c1 z0 z1 o0 o1 q0 q1
          rcases q with _ | s9
          · have HN := Lib.hid (HBAD.out (by rw [HOKL.out]; rfl))
            have c0 : w3.cell? ⟨w.heap.size, 0, none⟩ = some (.int .i64 0) := by simp [World.cell?, hr3]
            have c1 : w3.cell? ⟨w.heap.size, 1, none⟩ = some (.slice none 0 0) := by simp [World.cell?, hr3]
            have z0 : w3.frozen? ⟨w.heap.size, 0, none⟩ = false := by simp [World.frozen?, hr3]
            have z1 : w3.frozen? ⟨w.heap.size, 1, none⟩ = false := by simp [World.frozen?, hr3]
            clear hx3 hv3 hr3
            go_wp2_with fail
            refine bodyPost_ret (v := .tuple #[.agg #[.int .i64 0, .slice none 0 0], .int .i64 ((k : Int) + 1), .int .i64 4]) (by simp [results, Tryz.results22, go_sem, c0, c1]) rfl ?_
            exact RetParse.zero HN.out (((HWB.out _ HB3.out).setCell (Nat.le_refl _) _).setCell (Nat.le_refl _) _)
          have v0 : w3.cell? ⟨wq.heap.size, 0, none⟩ = some (.string c') := by simp [World.cell?, hv3]
          have v1 : w3.cell? ⟨wq.heap.size, 1, none⟩ = some (.int .i64 a) := by simp [World.cell?, hv3]
          have v2 : w3.cell? ⟨wq.heap.size, 2, none⟩ = some (.int .i64 b') := by simp [World.cell?, hv3]
          have v3 : w3.cell? ⟨wq.heap.size, 3, none⟩ = some (.bool ev) := by simp [World.cell?, hv3]
          have v4 : w3.cell? ⟨wq.heap.size, 4, none⟩ = some (.slice A' n' cp) := by simp [World.cell?, hv3]
          have o1 : w3.cell? ⟨g1, 1, none⟩ = some (.slice Av ss.length cv) := by simp [World.cell?, hx3]
          have HO3 : Hid (OwnG KSign 67 (w3.alloc (.cells #[.string c', .int .i64 a, .int .i64 b', .bool ev, .slice A' n' cp] 67)) (g1 + 1) (.slice Av ss.length cv) ss) := Lib.hid (HOK.out.kept (HBR3.out.trans ((Below.refl _ _).alloc (by omega) _)))
          obtain ⟨cells, hown3, hgr3⟩ := HO3.out
          have HGR := Lib.hid hgr3
          have HOS := Lib.hid hown3
          have HRDO := Lib.hid (rd_one_sign w3 (c', a, b', ev, (A', n', cp)))
          have hk1 : ss.length + 1 ≤ maxLen := by simp only [maxLen]; omega
          have hk2 : (ss.length + 1) * 64 ≤ 140737488355328 := by omega
          have hbase : g1 + 1 ≤ (w3.alloc (.cells #[.string c', .int .i64 a, .int .i64 b', .bool ev, .slice A' n' cp] 67)).heap.size := by simp; omega
          clear hgr3 hown3 hx3 hv3 hr3
          go_wp2_with (at_builtin; go_must (refine wpList_append_rd (enc := encS) rfl (.tmp 89) (.tmp 91) _ rfl (g1 + 1) 67 i1 _ 5 64 len_S one_S Tryz.underlying22 hi1 hz1 hs1' hb1' rfl (by decide) (.slice Av ss.length cv) ss.length cells rfl HOS.out _ (.slice (some ⟨w3.heap.size, 0, none⟩) 1 1) [(c', a, b', ev, (A', n', cp))] rfl HRDO.out hk1 hk2 hbase ?_))
          intro v8 w8 hown8 hg8 hat8
          obtain ⟨A8, c8, hv8⟩ := own_form hown8
          have hv8' : v8 = .slice A8 (ss.length + 1) c8 := hv8
          clear hv8
          subst hv8'
          have hbl8 : ∀ j, j < g1 + 1 → w8.heap[j]? = w3.heap[j]? := fun j hj => (hg8.block _ (by simp; omega) (fun e => by have := (HOS.out.lt _ e.symm).1; omega)).trans (((Below.refl w3.heap.size w3).alloc (Nat.le_refl _) _).block j (by omega))
          have hx8 := (hbl8 g1 (by omega)).trans HX3.out
          have hb8 : Below g1 w1 w8 := (HB3.out.alloc (by omega) _).grown hg8 (by simp; omega) (fun q hq => by have := (HOS.out.lt q hq).1; omega)
          have HON : Hid (OwnG KSign 67 w8 (g1 + 1) (.slice A8 (ss.length + 1) c8) (ss ++ [s9])) := Lib.hid (by
            obtain ⟨t1, t2, t3, t4, t5, t6⟩ := HQS.out s9 rfl
            refine OwnG.snoc HGR.out (cs := encS (c', a, b', ev, (A', n', cp))) ⟨.slice A' n' cp, by rw [t1, t2, t3, t4]; rfl, ?_⟩ ?_ hg8 ?_
            · refine t6.keep fun j hj => ⟨⟨by simp; omega, fun e => ?_, by omega⟩, ?_⟩
              · have := (HOK.out.lt j e).2
                omega
              · exact (((Below.refl w3.heap.size w3).alloc (Nat.le_refl _) _).block j (by omega)).trans (HVQ.out j (by omega))
            · exact hown8
            · rcases hat8 with h | h
              · exact .inl h
              · exact .inr ⟨_, h, by simp⟩)
          obtain ⟨w9, hw9⟩ : ∃ w9, w9 = w8.setCell ⟨g1, 1, none⟩ (.slice A8 (ss.length + 1) c8) := ⟨_, rfl⟩
          have HX9 : Hid (w9.heap[g1]? = some (.cells #[.int .i64 p, .slice A8 (ss.length + 1) c8] 24 (0, 0))) := Lib.hid (by rw [hw9]; exact gset hx8 _)
          have HB9 : Hid (Below g1 w1 w9) := Lib.hid (by rw [hw9]; exact hb8.setCell (p := ⟨g1, 1, none⟩) (Nat.le_refl _) _)
          have HO9 : Hid (OwnG KSign 67 w9 (g1 + 1) (.slice A8 (ss.length + 1) c8) (ss ++ [s9])) := Lib.hid (by
            rw [hw9]
            exact HON.out.aside (grown_set _ _ _) (by intro q hq; cases hq; show g1 < _; omega))
          have o1 : w8.cell? ⟨g1, 1, none⟩ = some (.slice Av ss.length cv) := by simp [World.cell?, hx8]
          have q1 : w8.frozen? ⟨g1, 1, none⟩ = false := by simp [World.frozen?, hx8]
          have HW9 := Lib.hid hw9
          have HNX : Hid (ss ++ [s9] = Sg.signsL (P.take (k + 1)) ∧ ∀ j, j < k + 1 → Sg.okLine P j = true) := Lib.hid (by
            refine ⟨?_, fun j hj => ?_⟩
            · rw [Sg.signsL_next HKP.out HPK.out HQS0.out.symm, ← HSS.out]
            · by_cases e : j = k
              · rw [e, HOKL.out]; rfl
              · exact HALL.out j (by omega))
          have HPR := Lib.hid (HPER.out HKP.out)
          clear hown8 hg8 hat8 hbl8 hx8 hb8 hw9 v0 v1 v2 v3 v4
          go_wp2_with fail
          rw [← HW9.out]
          go_roundg (n - (k + 1))
          case measure => omega
          case rel => exact ⟨k + 1, p, .slice A8 (ss.length + 1) c8, ss ++ [s9], by omega, by omega, rfl, by go_num, HB9.out, HX9.out, HO9.out, HNX.out.1, fun _ => HPR.out, HNX.out.2⟩
    · have hfin : r = [] ∧ n = P.length := by
        rcases HF.out with ⟨-, h2, h3⟩ | ⟨-, -, h3⟩
        · refine ⟨h2, ?_⟩
          have := HNL.out
          have h5 : l.length = LL.length := by rw [← HQ.out, List.length_map]
          rw [h3] at h5
          omega
        · have := HNL.out
          have h5 : l.length = LL.length := by rw [← HQ.out, List.length_map]
          rw [h3] at h5
          simp at h5
          omega
      have hkP : k = P.length := by omega
      have hp0 : 0 < k := by omega
      have hp := HPER.out hp0
      have hsP : ss = Sg.signsL P := by rw [HSS.out, List.take_of_length_le (by omega)]
      have HRES : Hid (res = if Sg.checkV (Sg.listL P) = 0 then (Sg.listL P, 0, 0) else (⟨0, []⟩, 0, Sg.checkV (Sg.listL P))) := Lib.hid (by rw [HPV.out]; exact Sg.parse_done (fun j hj => HALL.out j (by omega)) hfin.1 (fun e => by rw [e] at hkP; simp at hkP; omega))
      have HFT : Hid (∀ s ∈ Sg.signsL P, Sg.Sign.fits s) := Lib.hid (Sg.signsL_fits fun x hx => by have := HPLE.out x hx; omega)
      have HRG : Hid (RdG KSign wr (fun b => b < wr.heap.size ∧ g1 + 1 ≤ b) (.slice Av ss.length cv) (Sg.signsL P)) := Lib.hid (by
        have h := HOK.out.rd
        rw [hsP] at h ⊢
        exact h)
      have HRL : Hid (RdSL wr wr.heap.size (.agg #[.int .i64 p, .slice Av ss.length cv]) (Sg.listL P)) := Lib.hid ⟨⟨.slice Av ss.length cv, by rw [hp]; rfl, HRG.out.keep fun j hj => ⟨hj.1, rfl⟩⟩, HFT.out⟩
      have HCK := Lib.hid (r1Check_any _ _ _ HRL.out)
      have HP := Lib.hid hp
      obtain ⟨er, her⟩ : ∃ er, er = Sg.checkV (Sg.listL P) := ⟨_, rfl⟩
      rw [← her] at HRES HCK
      have hkn : ¬ (k : Int) < (n : Int) := by omega
      clear hfin hkP hp0 hp hsP her
      go_wp2_with fail
      refine HCK.out.mono ?_
      rintro e w4 ⟨rfl, hb4⟩
      have HB4 : Hid (Below w.heap.size w w4) := Lib.hid (HWB.out _ (HBK.out.trans (hb4.mono (by omega))))
      have HB4R := Lib.hid hb4
      have hr4 := HRB.out w4 (HBK.out.trans (hb4.mono (by omega)))
      have hx4 := (hb4.block g1 hszr).trans HXK.out
      clear hb4 c0 c1 z0 z1 o0 o1 q0 q1
      have c0 : w4.cell? ⟨w.heap.size, 0, none⟩ = some (.int .i64 0) := by simp [World.cell?, hr4]
      have c1 : w4.cell? ⟨w.heap.size, 1, none⟩ = some (.slice none 0 0) := by simp [World.cell?, hr4]
      have z0 : w4.frozen? ⟨w.heap.size, 0, none⟩ = false := by simp [World.frozen?, hr4]
      have z1 : w4.frozen? ⟨w.heap.size, 1, none⟩ = false := by simp [World.frozen?, hr4]
      have o0 : w4.cell? ⟨g1, 0, none⟩ = some (.int .i64 p) := by simp [World.cell?, hx4]
      have o1 : w4.cell? ⟨g1, 1, none⟩ = some (.slice Av ss.length cv) := by simp [World.cell?, hx4]
      clear hr4 hx4
      by_cases h0 : er = 0
      · have HR2 : Hid (res = (Sg.listL P, 0, 0)) := Lib.hid (by rw [HRES.out, if_pos h0])
        go_wp2_with fail
        refine bodyPost_ret (v := .tuple #[.agg #[.int .i64 p, .slice Av ss.length cv], .int .i64 0, .int .i64 0]) (by simp [results, Tryz.results22, go_sem, c0, c1]) rfl ?_
        rw [HR2.out]
        refine ⟨_, rfl, ⟨⟨.slice Av ss.length cv, by rw [HP.out]; rfl, HRG.out.keep fun j hj => ⟨?_, ?_⟩⟩, HFT.out⟩, (HB4.out.setCell (Nat.le_refl _) _).setCell (Nat.le_refl _) _⟩
        · have := HB4R.out.size
          simp [World.setCell]
          omega
        · rw [Below.heap_setCell _ ⟨w.heap.size, 1, none⟩ _ _ (by show j ≠ w.heap.size; omega), Below.heap_setCell _ ⟨w.heap.size, 0, none⟩ _ _ (by show j ≠ w.heap.size; omega)]
          exact HB4R.out.block j hj.1
      · have HR2 : Hid (res = (⟨0, []⟩, 0, er)) := Lib.hid (by rw [HRES.out, if_neg h0])
        go_wp2_with fail
        refine bodyPost_ret (v := .tuple #[.agg #[.int .i64 0, .slice none 0 0], .int .i64 0, .int .i64 er]) (by simp [results, Tryz.results22, go_sem, c0, c1]) rfl ?_
        exact RetParse.zero HR2.out ((HB4.out.setCell (Nat.le_refl _) _).setCell (Nat.le_refl _) _)
end Go.Proofs.YtkmimjngmfdpmaaGreatDoor
namespace Go.Proofs.YtkmimjngmfdpmaaGreatDoor
open Go Go.RowKit

theorem r1Same_eqP (v v' : Value) (l : Sg.SList) (w : World) (ha : RdSL w w.heap.size v l) (hb : RdSL w w.heap.size v' l) : Calls Tryz.prog 23 #[v, v'] w (RetBB true w) := by
  refine (r1Same_any v v' l l w ha hb).mono ?_
  rintro e w' ⟨q, rfl, hq, hb⟩
  have : q = true := hq.2 ⟨rfl, rfl⟩
  subst this
  exact ⟨rfl, hb⟩
set_option maxRecDepth 100000 in
set_option maxHeartbeats 8000000 in
theorem SignsParses_any (t : ByteArray) (w : World) (_hts : t.size ≤ maxLen) (hg : Glob w) (ht : GTab w) : Calls Tryz.prog 4 #[.string t] w (RetBB true w) := by
  have HG := Lib.hid fun (W : World) (hW : Below w.heap.size w W) => hg.below hW
  have HWK := Lib.hid fun (W : World) (hW : Below w.heap.size w W) => works1_any W (hg.below hW) (ht.below hW)
  by_cases hbig : 20000 < t.size
  · have hbI : (20000 : Int) < (t.size : Int) := by omega
    clear hg ht hbig
    go_enter Tryz.func4, Tryz.ntmps4
    go_wp2_with fail
    refine (HWK.out _ (Below.refl _ _)).mono ?_
    rintro e w3 ⟨rfl, hb3⟩
    have HB3 := Lib.hid hb3
    clear hb3
    go_wp2_with fail
    go_ret
    exact ⟨rfl, HB3.out⟩
  have hbI : ¬ (20000 : Int) < (t.size : Int) := by omega
  have HP1 := Lib.hid (gParse_any t w hg (by omega))
  have HP2 := Lib.hid fun W => r1Parse_any t W (by omega)
  obtain ⟨⟨L, ln, er⟩, hq⟩ : ∃ q, q = Sg.parseV t.data.toList := ⟨_, rfl⟩
  rw [← hq] at HP1 HP2
  clear hg ht hq hbig
  go_enter Tryz.func4, Tryz.ntmps4
  go_wp2_with fail
  refine HP1.out.mono ?_
  rintro e w1 ⟨v1, rfl, hr1, hb1⟩
  have HR1 := Lib.hid hr1
  obtain ⟨⟨u1, rfl, hgl1⟩, -⟩ := hr1
  obtain ⟨A1, c1, rfl⟩ := hgl1.form
  obtain ⟨w2, hw2⟩ : ∃ w2, w2 = w1.alloc (.cells #[.int .i64 L.periods, .slice A1 L.signs.length c1] 24) := ⟨_, rfl⟩
  have hb2 : Below w1.heap.size w1 w2 := by rw [hw2]; exact (Below.refl _ _).alloc (Nat.le_refl _) _
  have hX : w2.heap[w1.heap.size]? = some (.cells #[.int .i64 L.periods, .slice A1 L.signs.length c1] 24 (0, 0)) := by rw [hw2]; exact heap_alloc_new _ _
  have hsx : w1.heap.size < w2.heap.size := (Array.getElem?_eq_some_iff.1 hX).1
  have HB1 := Lib.hid hb1
  have HB2 := Lib.hid (hb1.trans (hb2.mono hb1.size))
  have HR2 := Lib.hid (HR1.out.on hb2)
  have HX := Lib.hid hX
  have HW2 := Lib.hid hw2
  clear hgl1 hb1 hb2 hX hw2
  go_upto_region 4 with fail
  rw [← HW2.out]
  go_wp2_with fail
  refine (HP2.out w2).mono ?_
  rintro e w3 ⟨v3, rfl, hr3, hb3⟩
  have HR3 := Lib.hid hr3
  obtain ⟨⟨u3, rfl, hgl3⟩, -⟩ := hr3
  obtain ⟨A3, c3, rfl⟩ := hgl3.form
  obtain ⟨w4, hw4⟩ : ∃ w4, w4 = w3.alloc (.cells #[.int .i64 L.periods, .slice A3 L.signs.length c3] 24) := ⟨_, rfl⟩
  have hb4 : Below w3.heap.size w3 w4 := by rw [hw4]; exact (Below.refl _ _).alloc (Nat.le_refl _) _
  have hY : w4.heap[w3.heap.size]? = some (.cells #[.int .i64 L.periods, .slice A3 L.signs.length c3] 24 (0, 0)) := by rw [hw4]; exact heap_alloc_new _ _
  have hX4 : w4.heap[w1.heap.size]? = some (.cells #[.int .i64 L.periods, .slice A1 L.signs.length c1] 24 (0, 0)) := ((hb3.trans (hb4.mono hb3.size)).block _ hsx).trans HX.out
  have x0 : w4.cell? ⟨w1.heap.size, 0, none⟩ = some (.int .i64 L.periods) := by simp [World.cell?, hX4]
  have x1 : w4.cell? ⟨w1.heap.size, 1, none⟩ = some (.slice A1 L.signs.length c1) := by simp [World.cell?, hX4]
  have y0 : w4.cell? ⟨w3.heap.size, 0, none⟩ = some (.int .i64 L.periods) := by simp [World.cell?, hY]
  have y1 : w4.cell? ⟨w3.heap.size, 1, none⟩ = some (.slice A3 L.signs.length c3) := by simp [World.cell?, hY]
  have HB4 := Lib.hid (HB2.out.trans ((hb3.trans (hb4.mono hb3.size)).mono HB2.out.size))
  have HRA := Lib.hid (HR2.out.on (hb3.trans (hb4.mono hb3.size)))
  have HRB := Lib.hid (HR3.out.on hb4)
  have HSM := Lib.hid (r1Same_eqP _ _ L w4 HRA.out HRB.out)
  have HW4 := Lib.hid hw4
  clear hgl3 hb3 hb4 hY hX4 hw4
  go_upto_region 5 with fail
  rw [← HW4.out]
  go_wp2_with fail
  refine HSM.out.mono ?_
  rintro e w5 ⟨rfl, hb5⟩
  have HB5 := Lib.hid (HB4.out.trans (hb5.mono HB4.out.size))
  clear hb5
  go_wp2_with fail
  refine (HWK.out _ HB5.out).mono ?_
  rintro e w6 ⟨rfl, hb6⟩
  have HB6 := Lib.hid (HB5.out.trans (hb6.mono HB5.out.size))
  clear hb6
  go_wp2_with fail
  go_ret
  exact ⟨rfl, HB6.out⟩
end Go.Proofs.YtkmimjngmfdpmaaGreatDoor
