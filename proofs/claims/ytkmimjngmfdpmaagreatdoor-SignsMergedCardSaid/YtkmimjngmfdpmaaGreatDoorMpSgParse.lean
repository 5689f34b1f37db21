/- signs.Parse. Made by gen_gparse.py. -/
import Derived.Test.YtkmimjngmfdpmaaGreatDoorMpSgAfter
import Derived.Test.YtkmimjngmfdpmaaGreatDoorMpSgSign
import Derived.Test.YtkmimjngmfdpmaaGreatDoorMpSgCheck
namespace Go.Proofs.YtkmimjngmfdpmaaGreatDoor
open Go Go.RowKit

def encS (q : ByteArray × Int × Int × Bool × (Option Addr × Nat × Nat)) : List Value := [.string q.1, .int .i64 q.2.1, .int .i64 q.2.2.1, .bool q.2.2.2.1, .slice q.2.2.2.2.1 q.2.2.2.2.2.1 q.2.2.2.2.2.2]
theorem len_S (q : ByteArray × Int × Int × Bool × (Option Addr × Nat × Nat)) : (encS q).length = 5 := rfl
theorem one_S (q : ByteArray × Int × Int × Bool × (Option Addr × Nat × Nat)) : ∀ u ∈ encS q, u.oneCell' = true := by intro u hu; simp [encS] at hu; rcases hu with rfl | rfl | rfl | rfl | rfl <;> rfl
def RetParse (q : Sg.SList × Int × Int) (w : World) (e : Ending) (w' : World) : Prop := ∃ v, e = .returned (.tuple #[v, .int .i64 q.2.1, .int .i64 q.2.2]) ∧ RdSL w' w'.heap.size v q.1 ∧ Below w.heap.size w w'
theorem RdSL.zero (w : World) (B : Nat) : RdSL w B (.agg #[.int .i64 0, .slice none 0 0]) ⟨0, []⟩ := ⟨⟨_, rfl, RdG.nil _ _⟩, fun s h => by cases h⟩
theorem RetParse.zero {w w' : World} {q : Sg.SList × Int × Int} {a b : Int} (hq : q = (⟨0, []⟩, a, b)) (hb : Below w.heap.size w w') : RetParse q w (.returned (.tuple #[.agg #[.int .i64 0, .slice none 0 0], .int .i64 a, .int .i64 b])) w' := by
  subst hq
  exact ⟨_, rfl, RdSL.zero _ _, hb⟩
theorem grown_set (w : World) (a : Addr) (u : Value) : w.grownBy (w.setCell a u) (some a.block) := ⟨rfl, rfl, rfl, by simp [World.setCell], fun i _ hi => Below.heap_setCell _ _ _ _ (fun e => hi (by rw [e]))⟩
theorem rd_one_sign (W : World) (q : ByteArray × Int × Int × Bool × (Option Addr × Nat × Nat)) : RdS (W.alloc (.cells #[.string q.1, .int .i64 q.2.1, .int .i64 q.2.2.1, .bool q.2.2.2.1, .slice q.2.2.2.2.1 q.2.2.2.2.2.1 q.2.2.2.2.2.2] 67)) (W.alloc (.cells #[.string q.1, .int .i64 q.2.1, .int .i64 q.2.2.1, .bool q.2.2.2.1, .slice q.2.2.2.2.1 q.2.2.2.2.2.1 q.2.2.2.2.2.2] 67)).heap.size 5 encS (.slice (some ⟨W.heap.size, 0, none⟩) 1 1) [q] :=
  rds_block (xs := [q]) len_S (heap_alloc_new W _) rfl (by simp) (Nat.le_refl 1) (by decide)
theorem Sg.head_fact (y : List UInt8) : (Sg.headV y).isSome = (Lib.hasPrefix y (Sg.perB ++ [32]) && Lx.numB (Lib.trimPrefix y (Sg.perB ++ [32])) 3) ∧ ((Sg.headV y).isSome = true → (Sg.headV y).getD 0 = Lx.numV (Lib.trimPrefix y (Sg.perB ++ [32])) 3) := by
  rw [Sg.head_eq]
  cases h1 : Lib.hasPrefix y (Sg.perB ++ [32])
  · simp
  · cases h2 : Lx.numB (Lib.trimPrefix y (Sg.perB ++ [32])) 3
    · simp
    · simp
set_option maxRecDepth 100000 in
set_option maxHeartbeats 16000000 in
theorem gParse_any (t : ByteArray) (w : World) (hg : Glob w) (ht : t.size ≤ 1000000) : Calls Tryz.prog 21 #[.string t] w (RetParse (Sg.parseV t.data.toList) w) := by
  obtain ⟨W0, hW0⟩ : ∃ W0, W0 = w.alloc (.cells #[.int .i64 0, .slice none 0 0] 24) := ⟨_, rfl⟩
  have hb0 : Below w.heap.size w W0 := by rw [hW0]; exact (Below.refl _ _).alloc (Nat.le_refl _) _
  have hr0 : W0.heap[w.heap.size]? = some (.cells #[.int .i64 0, .slice none 0 0] 24 (0, 0)) := by rw [hW0]; exact heap_alloc_new _ _
  have hs0 : w.heap.size < W0.heap.size := (Array.getElem?_eq_some_iff.1 hr0).1
  have HB0 := Lib.hid hb0
  have HR0 := Lib.hid hr0
  have HW0 := Lib.hid hW0
  have htl : t.data.toList.length = t.size := rfl
  by_cases hbig : 65536 < t.size
  · have HV : Hid (Sg.parseV t.data.toList = (⟨0, []⟩, 0, 2)) := Lib.hid (by unfold Sg.parseV; rw [if_pos (by omega)])
    have hbI : (65536 : Int) < (t.size : Int) := by omega
    have c0 : W0.cell? ⟨w.heap.size, 0, none⟩ = some (.int .i64 0) := by simp [World.cell?, hr0]
    have c1 : W0.cell? ⟨w.heap.size, 1, none⟩ = some (.slice none 0 0) := by simp [World.cell?, hr0]
    have z0 : W0.frozen? ⟨w.heap.size, 0, none⟩ = false := by simp [World.frozen?, hr0]
    have z1 : W0.frozen? ⟨w.heap.size, 1, none⟩ = false := by simp [World.frozen?, hr0]
    clear hb0 hr0 hW0 hbig
    go_enter Tryz.func21, Tryz.ntmps21
    go_upto_region 1 with fail
    rw [← HW0.out]
    go_wp2_with fail
    refine bodyPost_ret (v := .tuple #[.agg #[.int .i64 0, .slice none 0 0], .int .i64 0, .int .i64 2]) (by simp [results, Tryz.results21, go_sem, c0, c1]) rfl ?_
    exact RetParse.zero HV.out ((HB0.out.setCell (Nat.le_refl _) _).setCell (Nat.le_refl _) _)
  have hbI : ¬ (65536 : Int) < (t.size : Int) := by omega
  have HPV : Hid (Sg.parseV t.data.toList = Sg.parseL (Lx.pst 10 t.data.toList).1 (Lx.pst 10 t.data.toList).2) := Lib.hid (by unfold Sg.parseV; rw [if_neg (by omega)])
  have HAF := Lib.hid (gAfter_any t W0 (hg.below hb0) ht)
  have HG := Lib.hid fun (W : World) (hW : Below w.heap.size w W) => hg.below hW
  have hcl := Sg.lines_clear 10 t.data.toList
  have hle : ∀ x ∈ (Lx.pst 10 t.data.toList).1 ++ [(Lx.pst 10 t.data.toList).2], x.length ≤ 65536 := fun x hx => by
    rw [← Lx.pst_split] at hx
    have := Sg.split_leG hx
    omega
  have hpl := Lx.pst_count 10 t.data.toList
  obtain ⟨P, hP⟩ : ∃ P, P = (Lx.pst 10 t.data.toList).1 := ⟨_, rfl⟩
  obtain ⟨r, hr⟩ : ∃ r, r = (Lx.pst 10 t.data.toList).2 := ⟨_, rfl⟩
  rw [← hP, ← hr] at HPV HAF hcl hle
  rw [← hP] at hpl
  have HPC : Hid (∀ x ∈ P, (10 : UInt8) ∉ x ∧ x.length ≤ 65536) := Lib.hid fun x hx => ⟨hcl.1 x hx, hle x (by simp [hx])⟩
  have HRC : Hid ((10 : UInt8) ∉ r ∧ r.length ≤ 65536) := Lib.hid ⟨hcl.2, hle r (by simp)⟩
  have hPl : P.length ≤ 65536 := by omega
  generalize Sg.parseV t.data.toList = res at HPV ⊢
  obtain ⟨i1, hi1, hz1, hs1', hb1'⟩ := info_parts info_Sign
  clear hcl hle hpl hP hr hg hb0 hr0 hW0 htl hbig
  go_enter Tryz.func21, Tryz.ntmps21
  go_upto_region 1 with fail
  rw [← HW0.out]
  go_wp2_with fail
  refine HAF.out.mono ?_
  rintro e W1x ⟨LA, hLA, rfl, hW1x⟩
  obtain ⟨W1, hW1⟩ : ∃ W1, W1 = W1x := ⟨_, rfl⟩
  rw [← hW1] at hW1x ⊢
  clear hW1 W1x
  have hb1 : Below W0.heap.size W0 W1 := by rw [hW1x]; exact (Below.refl _ _).alloc (Nat.le_refl _) _
  have hl1 : W1.heap[W0.heap.size]? = some (.cells (LA.map Value.string).toArray 9 (0, 0)) := by rw [hW1x]; exact heap_alloc_new _ _
  have hs1 : W0.heap.size < W1.heap.size := (Array.getElem?_eq_some_iff.1 hl1).1
  have HB1 : Hid (Below w.heap.size w W1) := Lib.hid (HB0.out.trans (hb1.mono HB0.out.size))
  have HR1 : Hid (W1.heap[w.heap.size]? = some (.cells #[.int .i64 0, .slice none 0 0] 24 (0, 0))) := Lib.hid ((hb1.block _ hs0).trans HR0.out)
  have HL1 := Lib.hid hl1
  have hLn : LA.length = P.length + 1 := by have := congrArg List.length hLA; simpa using this
  have HLC : Hid (∀ (k : Nat) (s : ByteArray) (W : World), LA[k]? = some s → W.heap[W0.heap.size]? = W1.heap[W0.heap.size]? → W.cell? ⟨W0.heap.size, k, none⟩ = some (.string s)) := Lib.hid fun k s W h hW => by
    have h1 := hW.trans HL1.out
    simp [World.cell?, h1, h]
  have HLA : Hid (∀ (k : Nat) (s : ByteArray), LA[k]? = some s → (k < P.length ∧ ∃ y, P[k]? = some y ∧ s.data.toList = y ++ [10]) ∨ (k = P.length ∧ s.data.toList = r)) := Lib.hid fun k s h => by
    have h1 : (P.map (· ++ [10]) ++ [r])[k]? = some s.data.toList := by rw [← hLA, List.getElem?_map, h]; rfl
    by_cases hk : k < P.length
    · rw [List.getElem?_append_left (by simpa using hk), List.getElem?_map] at h1
      obtain ⟨y, hy, e⟩ := Option.map_eq_some_iff.1 h1
      exact .inl ⟨hk, y, hy, e.symm⟩
    · have hk2 : k < P.length + 1 := by rw [← hLn]; exact (List.getElem?_eq_some_iff.1 h).1
      have hk3 : k = P.length := by omega
      subst hk3
      rw [List.getElem?_append_right (by simp)] at h1
      simp at h1
      exact .inr ⟨rfl, h1.symm⟩
  obtain ⟨sl, hsl⟩ : ∃ sl, LA[P.length]? = some sl := ⟨_, List.getElem?_eq_getElem (by omega)⟩
  have hslr : sl.data.toList = r := by
    rcases HLA.out _ _ hsl with ⟨h, -⟩ | ⟨-, h⟩
    · omega
    · exact h
  have csl := HLC.out _ _ W1 hsl rfl
  clear hW1x hb1 hl1 hLA hsl HAF
  have hcs : P.length = 0 ∨ (0 < P.length ∧ r = []) ∨ (0 < P.length ∧ r ≠ []) := by
    by_cases h0 : P.length = 0
    · exact .inl h0
    · by_cases h1 : r = []
      · exact .inr (.inl ⟨by omega, h1⟩)
      · exact .inr (.inr ⟨by omega, h1⟩)
  rcases hcs with h0 | ⟨h0, h1⟩ | ⟨h0, h1⟩
  · obtain ⟨m, hm⟩ : ∃ m, m = P.length + 1 := ⟨_, rfl⟩
    have HM : Hid ((m = P.length ∧ P ≠ [] ∧ r = []) ∨ (m = P.length + 1 ∧ (r ≠ [] ∨ P = []))) := Lib.hid (.inr ⟨hm, .inr (List.length_eq_zero_iff.1 h0)⟩)
    have h0I : ¬ (0 : Int) < (P.length : Int) := by omega
    have HMM := Lib.hid hm
    have HP0 := Lib.hid h0
    clear h0 hm
    go_upto_region 7 with fail
    rw [← HMM.out]
    clear h0I csl hslr
    go_wp2_with fail
    go_loopg [39] (m) (fun g i wr => ∃ (k : Nat) (p : Int) (vv : Value) (ss : List Sg.Sign), k ≤ P.length ∧ k ≤ m ∧ g = m - k ∧ i = .int .i64 k ∧ Below w.heap.size w wr ∧ wr.heap[w.heap.size]? = some (.cells #[.int .i64 p, vv] 24 (0, 0)) ∧ wr.heap[W0.heap.size]? = W1.heap[W0.heap.size]? ∧ W1.heap.size ≤ wr.heap.size ∧ OwnG KSign 67 wr W1.heap.size vv ss ∧ ss = Sg.signsL (P.take k) ∧ (0 < k → p = Sg.periodsL P) ∧ ∀ j, j < k → Sg.okLine P j = true)
    case atStart => exact ⟨0, 0, .slice none 0 0, [], Nat.zero_le _, Nat.zero_le _, rfl, rfl, HB1.out, HR1.out, rfl, Nat.le_refl _, OwnG.nil _ _ _, rfl, fun h => absurd h (Nat.lt_irrefl _), fun j hj => absurd hj (Nat.not_lt_zero j)⟩
    case round =>
      obtain ⟨k, p, vv, ss, hk, hkm, rfl, rfl, hbel, hx, hlb, hszr, hown, hss, hper, hall⟩ := hrel
      obtain ⟨Av, cv, rfl⟩ := hown.form
      have HBK := Lib.hid hbel
      have HXK := Lib.hid hx
      have HLB := Lib.hid hlb
      have HOK := Lib.hid hown
      have HSS := Lib.hid hss
      have HPER := Lib.hid hper
      have HALL := Lib.hid hall
      have hsr : W0.heap.size < wr.heap.size := by omega
      have hsl : ss.length ≤ k := by rw [hss]; exact Sg.signsL_len _ _
      clear hbel hx hlb hown hss hper hall
      by_cases hlt : k < m
      · obtain ⟨s, hs⟩ : ∃ s, LA[k]? = some s := ⟨_, List.getElem?_eq_getElem (by rcases HM.out with ⟨h, -⟩ | ⟨h, -⟩ <;> omega)⟩
        have f0 := HLC.out k s wr hs HLB.out
        obtain ⟨y, en, hsuf, htrim, hy10, hyl, hen1, hen0⟩ : ∃ (y : List UInt8) (en : Bool), Lib.hasSuffix s.data.toList [10] = en ∧ Lib.trimSuffix s.data.toList [10] = y ∧ (10 : UInt8) ∉ y ∧ y.length ≤ 65536 ∧ (en = true → P[k]? = some y) ∧ (en = false → Sg.parseL P r = (⟨0, []⟩, (k : Int) + 1, 4)) := by
          rcases HLA.out k s hs with ⟨h1, y, h2, h3⟩ | ⟨h1, h3⟩
          · have h4 := HPC.out y (List.mem_of_getElem? h2)
            exact ⟨y, true, by rw [h3]; exact (suffix_yes y).1, by rw [h3]; exact (suffix_yes y).2, h4.1, h4.2, fun _ => h2, fun h => by cases h⟩
          · refine ⟨r, false, by rw [h3]; exact (suffix_no HRC.out.1).1, by rw [h3]; exact (suffix_no HRC.out.1).2, HRC.out.1, HRC.out.2, (fun h => by cases h), fun _ => ?_⟩
            rw [h1]
            refine Sg.parse_open (fun j hj => HALL.out j (by omega)) ?_
            rcases HM.out with ⟨h, -⟩ | ⟨-, h⟩
            · omega
            · exact h
        have HSUF : Hid (∀ W, Calls Tryz.prog 57 #[.string s, .string ⟨#[10]⟩] W (fun e w' => e = .returned (.tuple #[.string (Sg.bs y), .bool en]) ∧ w' = W)) := Lib.hid fun W => by
          have hz : s.size ≤ 9223372036854775807 := by
            have h1 : s.size = s.data.toList.length := rfl
            rcases HLA.out k s hs with ⟨-, y, h2, h3⟩ | ⟨-, h3⟩
            · have := (HPC.out y (List.mem_of_getElem? h2)).2
              rw [h1, h3]; simp; omega
            · have := HRC.out.2
              rw [h1, h3]; omega
          have := Tryz.strings_CutSuffix s ⟨#[10]⟩ W hz
          have e : (⟨#[10]⟩ : ByteArray).data.toList = [10] := rfl
          rw [e, hsuf, htrim] at this
          exact this
        have HE1 := Lib.hid hen1
        have HE0 := Lib.hid hen0
        have HY10 := Lib.hid hy10
        have hkI : (0 : Int) ≤ (k : Int) := by omega
        have hkW : (k : Int) + 1 ≤ 65537 := by omega
        have HBAD : Hid (∀ okk : Bool, (en = true → Sg.okLine P k = okk) → (okk && en) = false → res = (⟨0, []⟩, (k : Int) + 1, 4)) := Lib.hid fun okk h1 h2 => by
          rw [HPV.out]
          cases en with
          | false => exact HE0.out rfl
          | true =>
            have h3 : okk = false := by simpa using h2
            exact Sg.parse_bad ((List.getElem?_eq_some_iff.1 (HE1.out rfl)).1) HALL.out (by rw [h1 rfl, h3])
        clear hs hsuf htrim hen1 hen0 hy10
        rcases Nat.eq_zero_or_pos k with hk0 | hk0
        · have HHF := Lib.hid (Sg.head_fact y)
          have hk0I : ((k : Int) == 0) = true := by rw [beq_iff_eq]; omega
          obtain ⟨d, hd⟩ : ∃ d, d = Lib.trimPrefix y (Sg.perB ++ [32]) := ⟨_, rfl⟩
          obtain ⟨fd, hfd⟩ : ∃ fd, fd = Lib.hasPrefix y (Sg.perB ++ [32]) := ⟨_, rfl⟩
          have hdl : d.length ≤ 65536 := by
            rw [hd]
            unfold Lib.trimPrefix
            split
            · rw [List.length_drop]; omega
            · exact hyl
          have HPFX : Hid (∀ W, Calls Tryz.prog 58 #[.string (Sg.bs y), .string ⟨#[112, 101, 114, 105, 111, 100, 115, 32]⟩] W (fun e w' => e = .returned (.tuple #[.string (Sg.bs d), .bool fd]) ∧ w' = W)) := Lib.hid fun W => by
            have := Tryz.strings_CutPrefix (Sg.bs y) ⟨#[112, 101, 114, 105, 111, 100, 115, 32]⟩ W
            have e : (⟨#[112, 101, 114, 105, 111, 100, 115, 32]⟩ : ByteArray).data.toList = Sg.perB ++ [32] := rfl
            rw [e, Sg.bs_list, ← hd, ← hfd] at this
            exact this
          have HNUM := Lib.hid fun W => gNumber_any (Sg.bs d) W (by rw [Sg.bs_size]; omega)
          simp only [Sg.bs_list] at HNUM
          rw [← hd, ← hfd] at HHF
          obtain ⟨nv, hnv⟩ : ∃ nv, nv = Lx.numV d 3 := ⟨_, rfl⟩
          obtain ⟨nb, hnb⟩ : ∃ nb, nb = Lx.numB d 3 := ⟨_, rfl⟩
          rw [← hnv, ← hnb] at HNUM HHF
          generalize Sg.bs y = Y at HSUF HPFX
          generalize Sg.bs d = D at HPFX HNUM
          clear hd hfd hnv hnb hdl
          have HK0 := Lib.hid hk0
          clear hk0
          go_wp2_with fail
          refine (HSUF.out _).mono ?_
          rintro e wq ⟨rfl, rfl⟩
          rename World => wq
          go_wp2_with fail
          refine (HPFX.out _).mono ?_
          rintro e wq2 ⟨rfl, rfl⟩
          go_wp2_with fail
          refine (HNUM.out _).mono ?_
          rintro e w2 ⟨rfl, hb2⟩
          have hx2 := (hb2.block w.heap.size (by omega)).trans HXK.out
          have HB2 : Hid (Below w.heap.size w w2) := Lib.hid (HBK.out.trans (hb2.mono HBK.out.size))
          obtain ⟨w3, hw3⟩ : ∃ w3, w3 = w2.setCell ⟨w.heap.size, 0, none⟩ (.int .i64 nv) := ⟨_, rfl⟩
          have hx3 : w3.heap[w.heap.size]? = some (.cells #[.int .i64 nv, .slice Av ss.length cv] 24 (0, 0)) := by rw [hw3]; exact gset hx2 _
          have hb3 : Below w.heap.size w w3 := by rw [hw3]; exact HB2.out.setCell (Nat.le_refl _) _
          have HL3 : Hid (w3.heap[W0.heap.size]? = W1.heap[W0.heap.size]?) := Lib.hid (by rw [hw3, Below.heap_setCell _ ⟨w.heap.size, 0, none⟩ _ _ (by show W0.heap.size ≠ w.heap.size; omega)]; exact (hb2.block _ hsr).trans HLB.out)
          have HO3 : Hid (OwnG KSign 67 w3 W1.heap.size (.slice Av ss.length cv) ss) := Lib.hid (by rw [hw3]; exact (HOK.out.kept hb2).aside (grown_set _ _ _) (by intro q hq; cases hq; show w.heap.size < _; omega))
          have hsz3 : W1.heap.size ≤ w3.heap.size := by rw [hw3]; have := hb2.size; simp [World.setCell]; omega
          have c0 : w2.cell? ⟨w.heap.size, 0, none⟩ = some (.int .i64 p) := by simp [World.cell?, hx2]
          have z0 : w2.frozen? ⟨w.heap.size, 0, none⟩ = false := by simp [World.frozen?, hx2]
          have HW3 := Lib.hid hw3
          have HX3 := Lib.hid hx3
          have HB3 := Lib.hid hb3
          clear hb2 hx2 hw3 hx3 hb3
          go_upto_region 15 with fail
          rw [← HW3.out]
          clear c0 z0 f0
          have hx3 := HX3.out
          have c0 : w3.cell? ⟨w.heap.size, 0, none⟩ = some (.int .i64 nv) := by simp [World.cell?, hx3]
          have c1 : w3.cell? ⟨w.heap.size, 1, none⟩ = some (.slice Av ss.length cv) := by simp [World.cell?, hx3]
          have z0 : w3.frozen? ⟨w.heap.size, 0, none⟩ = false := by simp [World.frozen?, hx3]
          have z1 : w3.frozen? ⟨w.heap.size, 1, none⟩ = false := by simp [World.frozen?, hx3]
          clear hx3
          cases hall : (fd && nb && en)
          case false =>
            have HN : Hid (res = (⟨0, []⟩, (k : Int) + 1, 4)) := Lib.hid (by
              have := HBAD.out (fd && nb) (fun he => by have h0 := HE1.out he; rw [HK0.out] at h0 ⊢; rw [Sg.okLine_head h0]; exact HHF.out.1) hall
              have hk00 : (k : Int) = 0 := by have := HK0.out; omega
              rw [hk00] at this ⊢
              exact this)
            cases fd <;> cases nb <;> cases en <;> first
              | (exfalso; cases hall; done)
              | (clear hall
                 go_wp2_with fail
                 refine bodyPost_ret (v := .tuple #[.agg #[.int .i64 0, .slice none 0 0], .int .i64 ((k : Int) + 1), .int .i64 4]) (by simp [results, Tryz.results21, go_sem, c0, c1]) rfl ?_
                 exact RetParse.zero HN.out ((HB3.out.setCell (Nat.le_refl _) _).setCell (Nat.le_refl _) _))
          obtain ⟨⟨rfl, rfl⟩, rfl⟩ : (fd = true ∧ nb = true) ∧ en = true := by simpa using hall
          have hPk := HE1.out rfl
          have hPk0 := hPk
          rw [HK0.out] at hPk0
          have hkP : k < P.length := (List.getElem?_eq_some_iff.1 hPk).1
          have HNX : Hid (ss = Sg.signsL (P.take (k + 1)) ∧ nv = Sg.periodsL P ∧ ∀ j, j < k + 1 → Sg.okLine P j = true) := Lib.hid (by
            have hok : (Sg.headV y).isSome = true := HHF.out.1
            refine ⟨?_, ?_, fun j hj => ?_⟩
            · rw [HSS.out, HK0.out, Sg.signsL_one]; rfl
            · unfold Sg.periodsL
              rw [hPk0]
              exact (HHF.out.2 hok).symm
            · have e : j = 0 := by have := HK0.out; omega
              rw [e, Sg.okLine_head hPk0]
              exact hok)
          clear hPk hPk0 hall c0 c1 z0 z1
          go_wp2_with fail
          go_roundg (m - (k + 1))
          case measure => omega
          case rel => exact ⟨k + 1, nv, .slice Av ss.length cv, ss, by omega, by omega, rfl, by go_num, HB3.out, HX3.out, HL3.out, hsz3, HO3.out, HNX.out.1, fun _ => HNX.out.2.1, HNX.out.2.2⟩
        · exact absurd hk (by have := HP0.out; omega)
      · have hm : m = P.length ∧ P ≠ [] ∧ r = [] := by
          rcases HM.out with ⟨h, h2⟩ | ⟨h, -⟩
          · first | exact ⟨h, h2⟩ | exact ⟨rfl, h2⟩
          · omega
        have hkP : k = P.length := by omega
        have hp0 : 0 < k := by rw [hkP]; exact List.length_pos_iff.2 hm.2.1
        have hp := HPER.out hp0
        have hsP : ss = Sg.signsL P := by rw [HSS.out, List.take_of_length_le (by omega)]
        have HRES : Hid (res = if Sg.checkV (Sg.listL P) = 0 then (Sg.listL P, 0, 0) else (⟨0, []⟩, 0, Sg.checkV (Sg.listL P))) := Lib.hid (by rw [HPV.out]; exact Sg.parse_done (fun j hj => HALL.out j (by omega)) hm.2.2 hm.2.1)
        have HFT : Hid (∀ s ∈ Sg.signsL P, Sg.Sign.fits s) := Lib.hid (Sg.signsL_fits fun x hx => by have := (HPC.out x hx).2; omega)
        have HRG : Hid (RdG KSign wr (fun b => b < wr.heap.size ∧ W1.heap.size ≤ b) (.slice Av ss.length cv) (Sg.signsL P)) := Lib.hid (by
          have h := HOK.out.rd
          rw [hsP] at h ⊢
          exact h)
        have HRL : Hid (RdSL wr wr.heap.size (.agg #[.int .i64 p, .slice Av ss.length cv]) (Sg.listL P)) := Lib.hid ⟨⟨.slice Av ss.length cv, by rw [hp]; rfl, HRG.out.keep fun j hj => ⟨hj.1, rfl⟩⟩, HFT.out⟩
        have HCK := Lib.hid (gCheck_any _ _ _ HRL.out)
        have hxr := HXK.out
        have c0 : wr.cell? ⟨w.heap.size, 0, none⟩ = some (.int .i64 p) := by simp [World.cell?, hxr]
        have c1 : wr.cell? ⟨w.heap.size, 1, none⟩ = some (.slice Av ss.length cv) := by simp [World.cell?, hxr]
        have z0 : wr.frozen? ⟨w.heap.size, 0, none⟩ = false := by simp [World.frozen?, hxr]
        have z1 : wr.frozen? ⟨w.heap.size, 1, none⟩ = false := by simp [World.frozen?, hxr]
        have HP := Lib.hid hp
        clear hxr hm hkP hp0 hp hsP
        obtain ⟨er, her⟩ : ∃ er, er = Sg.checkV (Sg.listL P) := ⟨_, rfl⟩
        rw [← her] at HRES HCK
        clear her
        go_wp2_with fail
        refine HCK.out.mono ?_
        rintro e w2 ⟨rfl, hb2⟩
        have HB2 : Hid (Below w.heap.size w w2) := Lib.hid (HBK.out.trans (hb2.mono HBK.out.size))
        have HB2R := Lib.hid hb2
        have hx2 := (hb2.block w.heap.size (by omega)).trans HXK.out
        clear hb2 c0 c1 z0 z1
        have c0 : w2.cell? ⟨w.heap.size, 0, none⟩ = some (.int .i64 p) := by simp [World.cell?, hx2]
        have c1 : w2.cell? ⟨w.heap.size, 1, none⟩ = some (.slice Av ss.length cv) := by simp [World.cell?, hx2]
        have z0 : w2.frozen? ⟨w.heap.size, 0, none⟩ = false := by simp [World.frozen?, hx2]
        have z1 : w2.frozen? ⟨w.heap.size, 1, none⟩ = false := by simp [World.frozen?, hx2]
        clear hx2
        by_cases h0 : er = 0
        · have HR2 : Hid (res = (Sg.listL P, 0, 0)) := Lib.hid (by rw [HRES.out, if_pos h0])
          go_wp2_with fail
          refine bodyPost_ret (v := .tuple #[.agg #[.int .i64 p, .slice Av ss.length cv], .int .i64 0, .int .i64 0]) (by simp [results, Tryz.results21, go_sem, c0, c1]) rfl ?_
          rw [HR2.out]
          refine ⟨_, rfl, ⟨⟨.slice Av ss.length cv, by rw [HP.out]; rfl, HRG.out.keep fun j hj => ⟨?_, ?_⟩⟩, HFT.out⟩, (HB2.out.setCell (Nat.le_refl _) _).setCell (Nat.le_refl _) _⟩
          · have := HB2R.out.size
            simp [World.setCell]
            omega
          · rw [Below.heap_setCell _ ⟨w.heap.size, 1, none⟩ _ _ (by show j ≠ w.heap.size; omega), Below.heap_setCell _ ⟨w.heap.size, 0, none⟩ _ _ (by show j ≠ w.heap.size; omega)]
            exact HB2R.out.block j hj.1
        · have HR2 : Hid (res = (⟨0, []⟩, 0, er)) := Lib.hid (by rw [HRES.out, if_neg h0])
          go_wp2_with fail
          refine bodyPost_ret (v := .tuple #[.agg #[.int .i64 0, .slice none 0 0], .int .i64 0, .int .i64 er]) (by simp [results, Tryz.results21, go_sem, c0, c1]) rfl ?_
          exact RetParse.zero HR2.out ((HB2.out.setCell (Nat.le_refl _) _).setCell (Nat.le_refl _) _)
  · have HM : Hid ((P.length = P.length ∧ P ≠ [] ∧ r = []) ∨ (P.length = P.length + 1 ∧ (r ≠ [] ∨ P = []))) := Lib.hid (.inl ⟨rfl, List.length_pos_iff.1 h0, h1⟩)
    have hemp : sl.toList.isEmpty = true := by rw [Lib.toList_data, hslr, h1]; rfl
    have h0I : (0 : Int) < (P.length : Int) := by omega
    clear h1
    go_upto_region 7 with fail
    clear h0 h0I csl hslr hemp
    go_wp2_with fail
    go_loopg [39] (P.length) (fun g i wr => ∃ (k : Nat) (p : Int) (vv : Value) (ss : List Sg.Sign), k ≤ P.length ∧ k ≤ P.length ∧ g = P.length - k ∧ i = .int .i64 k ∧ Below w.heap.size w wr ∧ wr.heap[w.heap.size]? = some (.cells #[.int .i64 p, vv] 24 (0, 0)) ∧ wr.heap[W0.heap.size]? = W1.heap[W0.heap.size]? ∧ W1.heap.size ≤ wr.heap.size ∧ OwnG KSign 67 wr W1.heap.size vv ss ∧ ss = Sg.signsL (P.take k) ∧ (0 < k → p = Sg.periodsL P) ∧ ∀ j, j < k → Sg.okLine P j = true)
    case atStart => exact ⟨0, 0, .slice none 0 0, [], Nat.zero_le _, Nat.zero_le _, rfl, rfl, HB1.out, HR1.out, rfl, Nat.le_refl _, OwnG.nil _ _ _, rfl, fun h => absurd h (Nat.lt_irrefl _), fun j hj => absurd hj (Nat.not_lt_zero j)⟩
    case round =>
      obtain ⟨k, p, vv, ss, hk, hkm, rfl, rfl, hbel, hx, hlb, hszr, hown, hss, hper, hall⟩ := hrel
      obtain ⟨Av, cv, rfl⟩ := hown.form
      have HBK := Lib.hid hbel
      have HXK := Lib.hid hx
      have HLB := Lib.hid hlb
      have HOK := Lib.hid hown
      have HSS := Lib.hid hss
      have HPER := Lib.hid hper
      have HALL := Lib.hid hall
      have hsr : W0.heap.size < wr.heap.size := by omega
      have hsl : ss.length ≤ k := by rw [hss]; exact Sg.signsL_len _ _
      clear hbel hx hlb hown hss hper hall
      by_cases hlt : k < P.length
      · obtain ⟨s, hs⟩ : ∃ s, LA[k]? = some s := ⟨_, List.getElem?_eq_getElem (by rcases HM.out with ⟨h, -⟩ | ⟨h, -⟩ <;> omega)⟩
        have f0 := HLC.out k s wr hs HLB.out
        obtain ⟨y, en, hsuf, htrim, hy10, hyl, hen1, hen0⟩ : ∃ (y : List UInt8) (en : Bool), Lib.hasSuffix s.data.toList [10] = en ∧ Lib.trimSuffix s.data.toList [10] = y ∧ (10 : UInt8) ∉ y ∧ y.length ≤ 65536 ∧ (en = true → P[k]? = some y) ∧ (en = false → Sg.parseL P r = (⟨0, []⟩, (k : Int) + 1, 4)) := by
          rcases HLA.out k s hs with ⟨h1, y, h2, h3⟩ | ⟨h1, h3⟩
          · have h4 := HPC.out y (List.mem_of_getElem? h2)
            exact ⟨y, true, by rw [h3]; exact (suffix_yes y).1, by rw [h3]; exact (suffix_yes y).2, h4.1, h4.2, fun _ => h2, fun h => by cases h⟩
          · refine ⟨r, false, by rw [h3]; exact (suffix_no HRC.out.1).1, by rw [h3]; exact (suffix_no HRC.out.1).2, HRC.out.1, HRC.out.2, (fun h => by cases h), fun _ => ?_⟩
            rw [h1]
            refine Sg.parse_open (fun j hj => HALL.out j (by omega)) ?_
            rcases HM.out with ⟨h, -⟩ | ⟨-, h⟩
            · omega
            · exact h
        have HSUF : Hid (∀ W, Calls Tryz.prog 57 #[.string s, .string ⟨#[10]⟩] W (fun e w' => e = .returned (.tuple #[.string (Sg.bs y), .bool en]) ∧ w' = W)) := Lib.hid fun W => by
          have hz : s.size ≤ 9223372036854775807 := by
            have h1 : s.size = s.data.toList.length := rfl
            rcases HLA.out k s hs with ⟨-, y, h2, h3⟩ | ⟨-, h3⟩
            · have := (HPC.out y (List.mem_of_getElem? h2)).2
              rw [h1, h3]; simp; omega
            · have := HRC.out.2
              rw [h1, h3]; omega
          have := Tryz.strings_CutSuffix s ⟨#[10]⟩ W hz
          have e : (⟨#[10]⟩ : ByteArray).data.toList = [10] := rfl
          rw [e, hsuf, htrim] at this
          exact this
        have HE1 := Lib.hid hen1
        have HE0 := Lib.hid hen0
        have HY10 := Lib.hid hy10
        have hkI : (0 : Int) ≤ (k : Int) := by omega
        have hkW : (k : Int) + 1 ≤ 65537 := by omega
        have HBAD : Hid (∀ okk : Bool, (en = true → Sg.okLine P k = okk) → (okk && en) = false → res = (⟨0, []⟩, (k : Int) + 1, 4)) := Lib.hid fun okk h1 h2 => by
          rw [HPV.out]
          cases en with
          | false => exact HE0.out rfl
          | true =>
            have h3 : okk = false := by simpa using h2
            exact Sg.parse_bad ((List.getElem?_eq_some_iff.1 (HE1.out rfl)).1) HALL.out (by rw [h1 rfl, h3])
        clear hs hsuf htrim hen1 hen0 hy10
        rcases Nat.eq_zero_or_pos k with hk0 | hk0
        · have HHF := Lib.hid (Sg.head_fact y)
          have hk0I : ((k : Int) == 0) = true := by rw [beq_iff_eq]; omega
          obtain ⟨d, hd⟩ : ∃ d, d = Lib.trimPrefix y (Sg.perB ++ [32]) := ⟨_, rfl⟩
          obtain ⟨fd, hfd⟩ : ∃ fd, fd = Lib.hasPrefix y (Sg.perB ++ [32]) := ⟨_, rfl⟩
          have hdl : d.length ≤ 65536 := by
            rw [hd]
            unfold Lib.trimPrefix
            split
            · rw [List.length_drop]; omega
            · exact hyl
          have HPFX : Hid (∀ W, Calls Tryz.prog 58 #[.string (Sg.bs y), .string ⟨#[112, 101, 114, 105, 111, 100, 115, 32]⟩] W (fun e w' => e = .returned (.tuple #[.string (Sg.bs d), .bool fd]) ∧ w' = W)) := Lib.hid fun W => by
            have := Tryz.strings_CutPrefix (Sg.bs y) ⟨#[112, 101, 114, 105, 111, 100, 115, 32]⟩ W
            have e : (⟨#[112, 101, 114, 105, 111, 100, 115, 32]⟩ : ByteArray).data.toList = Sg.perB ++ [32] := rfl
            rw [e, Sg.bs_list, ← hd, ← hfd] at this
            exact this
          have HNUM := Lib.hid fun W => gNumber_any (Sg.bs d) W (by rw [Sg.bs_size]; omega)
          simp only [Sg.bs_list] at HNUM
          rw [← hd, ← hfd] at HHF
          obtain ⟨nv, hnv⟩ : ∃ nv, nv = Lx.numV d 3 := ⟨_, rfl⟩
          obtain ⟨nb, hnb⟩ : ∃ nb, nb = Lx.numB d 3 := ⟨_, rfl⟩
          rw [← hnv, ← hnb] at HNUM HHF
          generalize Sg.bs y = Y at HSUF HPFX
          generalize Sg.bs d = D at HPFX HNUM
          clear hd hfd hnv hnb hdl
          have HK0 := Lib.hid hk0
          clear hk0
          go_wp2_with fail
          refine (HSUF.out _).mono ?_
          rintro e wq ⟨rfl, rfl⟩
          rename World => wq
          go_wp2_with fail
          refine (HPFX.out _).mono ?_
          rintro e wq2 ⟨rfl, rfl⟩
          go_wp2_with fail
          refine (HNUM.out _).mono ?_
          rintro e w2 ⟨rfl, hb2⟩
          have hx2 := (hb2.block w.heap.size (by omega)).trans HXK.out
          have HB2 : Hid (Below w.heap.size w w2) := Lib.hid (HBK.out.trans (hb2.mono HBK.out.size))
          obtain ⟨w3, hw3⟩ : ∃ w3, w3 = w2.setCell ⟨w.heap.size, 0, none⟩ (.int .i64 nv) := ⟨_, rfl⟩
          have hx3 : w3.heap[w.heap.size]? = some (.cells #[.int .i64 nv, .slice Av ss.length cv] 24 (0, 0)) := by rw [hw3]; exact gset hx2 _
          have hb3 : Below w.heap.size w w3 := by rw [hw3]; exact HB2.out.setCell (Nat.le_refl _) _
          have HL3 : Hid (w3.heap[W0.heap.size]? = W1.heap[W0.heap.size]?) := Lib.hid (by rw [hw3, Below.heap_setCell _ ⟨w.heap.size, 0, none⟩ _ _ (by show W0.heap.size ≠ w.heap.size; omega)]; exact (hb2.block _ hsr).trans HLB.out)
          have HO3 : Hid (OwnG KSign 67 w3 W1.heap.size (.slice Av ss.length cv) ss) := Lib.hid (by rw [hw3]; exact (HOK.out.kept hb2).aside (grown_set _ _ _) (by intro q hq; cases hq; show w.heap.size < _; omega))
          have hsz3 : W1.heap.size ≤ w3.heap.size := by rw [hw3]; have := hb2.size; simp [World.setCell]; omega
          have c0 : w2.cell? ⟨w.heap.size, 0, none⟩ = some (.int .i64 p) := by simp [World.cell?, hx2]
          have z0 : w2.frozen? ⟨w.heap.size, 0, none⟩ = false := by simp [World.frozen?, hx2]
          have HW3 := Lib.hid hw3
          have HX3 := Lib.hid hx3
          have HB3 := Lib.hid hb3
          clear hb2 hx2 hw3 hx3 hb3
          go_upto_region 15 with fail
          rw [← HW3.out]
          clear c0 z0 f0
          have hx3 := HX3.out
          have c0 : w3.cell? ⟨w.heap.size, 0, none⟩ = some (.int .i64 nv) := by simp [World.cell?, hx3]
          have c1 : w3.cell? ⟨w.heap.size, 1, none⟩ = some (.slice Av ss.length cv) := by simp [World.cell?, hx3]
          have z0 : w3.frozen? ⟨w.heap.size, 0, none⟩ = false := by simp [World.frozen?, hx3]
          have z1 : w3.frozen? ⟨w.heap.size, 1, none⟩ = false := by simp [World.frozen?, hx3]
          clear hx3
          cases hall : (fd && nb && en)
          case false =>
            have HN : Hid (res = (⟨0, []⟩, (k : Int) + 1, 4)) := Lib.hid (by
              have := HBAD.out (fd && nb) (fun he => by have h0 := HE1.out he; rw [HK0.out] at h0 ⊢; rw [Sg.okLine_head h0]; exact HHF.out.1) hall
              have hk00 : (k : Int) = 0 := by have := HK0.out; omega
              rw [hk00] at this ⊢
              exact this)
            cases fd <;> cases nb <;> cases en <;> first
              | (exfalso; cases hall; done)
              | (clear hall
                 go_wp2_with fail
                 refine bodyPost_ret (v := .tuple #[.agg #[.int .i64 0, .slice none 0 0], .int .i64 ((k : Int) + 1), .int .i64 4]) (by simp [results, Tryz.results21, go_sem, c0, c1]) rfl ?_
                 exact RetParse.zero HN.out ((HB3.out.setCell (Nat.le_refl _) _).setCell (Nat.le_refl _) _))
          obtain ⟨⟨rfl, rfl⟩, rfl⟩ : (fd = true ∧ nb = true) ∧ en = true := by simpa using hall
          have hPk := HE1.out rfl
          have hPk0 := hPk
          rw [HK0.out] at hPk0
          have hkP : k < P.length := (List.getElem?_eq_some_iff.1 hPk).1
          have HNX : Hid (ss = Sg.signsL (P.take (k + 1)) ∧ nv = Sg.periodsL P ∧ ∀ j, j < k + 1 → Sg.okLine P j = true) := Lib.hid (by
            have hok : (Sg.headV y).isSome = true := HHF.out.1
            refine ⟨?_, ?_, fun j hj => ?_⟩
            · rw [HSS.out, HK0.out, Sg.signsL_one]; rfl
            · unfold Sg.periodsL
              rw [hPk0]
              exact (HHF.out.2 hok).symm
            · have e : j = 0 := by have := HK0.out; omega
              rw [e, Sg.okLine_head hPk0]
              exact hok)
          clear hPk hPk0 hall c0 c1 z0 z1
          go_wp2_with fail
          go_roundg (P.length - (k + 1))
          case measure => omega
          case rel => exact ⟨k + 1, nv, .slice Av ss.length cv, ss, by omega, by omega, rfl, by go_num, HB3.out, HX3.out, HL3.out, hsz3, HO3.out, HNX.out.1, fun _ => HNX.out.2.1, HNX.out.2.2⟩
        · have hk0I : ((k : Int) == 0) = false := by rw [beq_eq_false_iff_ne]; omega
          have HKP := Lib.hid hk0
          have HSC := Lib.hid fun (W : World) (hW : Below w.heap.size w W) => gSign_any (Sg.bs y) W (HG.out W hW) (by rw [Sg.bs_size]; omega) (by rw [Sg.bs_list]; exact HY10.out)
          simp only [Sg.bs_list] at HSC
          obtain ⟨q, hq⟩ : ∃ q, q = Sg.signL (Lib.split y [32]) := ⟨_, rfl⟩
          rw [← hq] at HSC
          have HQ := Lib.hid hq
          generalize Sg.bs y = Y at HSUF HSC
          obtain ⟨wA, hwA⟩ : ∃ wA, wA = wr.alloc (.cells #[.string ⟨#[]⟩, .int .i64 0, .int .i64 0, .bool false, .slice none 0 0] 67) := ⟨_, rfl⟩
          have hbA : Below wr.heap.size wr wA := by rw [hwA]; exact (Below.refl _ _).alloc (Nat.le_refl _) _
          have hvA : wA.heap[wr.heap.size]? = some (.cells #[.string ⟨#[]⟩, .int .i64 0, .int .i64 0, .bool false, .slice none 0 0] 67 (0, 0)) := by rw [hwA]; exact heap_alloc_new _ _
          have hsA : wr.heap.size < wA.heap.size := by rw [hwA]; simp
          have HBA := Lib.hid (HBK.out.trans (hbA.mono HBK.out.size))
          have HWA := Lib.hid hwA
          have HBA1 := Lib.hid hbA
          have HVA := Lib.hid hvA
          clear hq hwA hbA hvA hk0
          go_wp2_with fail
          refine (HSUF.out _).mono ?_
          rintro e wq ⟨rfl, hwq⟩
          rw [hwq]
          clear hwq wq
          go_upto_region 17 with fail
          rw [← HWA.out]
          clear f0
          go_wp2_with fail
          refine (HSC.out _ HBA.out).mono ?_
          rintro e w2 ⟨c, a, b, ev, A, n, cp, rfl, hb2, hqs⟩
          have hk0 := HKP.out
          have hv2 := (hb2.block _ hsA).trans HVA.out
          have hb2r : Below wr.heap.size wr w2 := HBA1.out.trans (hb2.mono (by omega))
          have hsz2 := hb2.size
          obtain ⟨w3, hw3⟩ : ∃ w3, w3 = ((((w2.setCell ⟨wr.heap.size, 0, none⟩ (.string c)).setCell ⟨wr.heap.size, 1, none⟩ (.int .i64 a)).setCell ⟨wr.heap.size, 2, none⟩ (.int .i64 b)).setCell ⟨wr.heap.size, 3, none⟩ (.bool ev)).setCell ⟨wr.heap.size, 4, none⟩ (.slice A n cp) := ⟨_, rfl⟩
          have hv3 : w3.heap[wr.heap.size]? = some (.cells #[.string c, .int .i64 a, .int .i64 b, .bool ev, .slice A n cp] 67 (0, 0)) := by rw [hw3]; exact gset (gset (gset (gset (gset hv2 _) _) _) _) _
          have hb3 : Below wr.heap.size wr w3 := by rw [hw3]; exact ((((hb2r.setCell (Nat.le_refl _) _).setCell (Nat.le_refl _) _).setCell (Nat.le_refl _) _).setCell (Nat.le_refl _) _).setCell (Nat.le_refl _) _
          have hsz3 : w2.heap.size = w3.heap.size := by rw [hw3]; simp [World.setCell]
          have HK3 : Hid (∀ j, j ≠ wr.heap.size → w3.heap[j]? = w2.heap[j]?) := Lib.hid fun j hj => by rw [hw3]; exact set5 hj _ _ _ _ _
          have v0 : w2.cell? ⟨wr.heap.size, 0, none⟩ = some (.string ⟨#[]⟩) := by simp [World.cell?, hv2]
          have v1 : w2.cell? ⟨wr.heap.size, 1, none⟩ = some (.int .i64 0) := by simp [World.cell?, hv2]
          have v2 : w2.cell? ⟨wr.heap.size, 2, none⟩ = some (.int .i64 0) := by simp [World.cell?, hv2]
          have v3 : w2.cell? ⟨wr.heap.size, 3, none⟩ = some (.bool false) := by simp [World.cell?, hv2]
          have v4 : w2.cell? ⟨wr.heap.size, 4, none⟩ = some (.slice none 0 0) := by simp [World.cell?, hv2]
          have y0 : w2.frozen? ⟨wr.heap.size, 0, none⟩ = false := by simp [World.frozen?, hv2]
          have y1 : w2.frozen? ⟨wr.heap.size, 1, none⟩ = false := by simp [World.frozen?, hv2]
          have y2 : w2.frozen? ⟨wr.heap.size, 2, none⟩ = false := by simp [World.frozen?, hv2]
          have y3 : w2.frozen? ⟨wr.heap.size, 3, none⟩ = false := by simp [World.frozen?, hv2]
          have y4 : w2.frozen? ⟨wr.heap.size, 4, none⟩ = false := by simp [World.frozen?, hv2]
          have HW3 := Lib.hid hw3
          have HQS := Lib.hid hqs
          have HB3 := Lib.hid hb3
          have HV3 := Lib.hid hv3
          have HX3 := Lib.hid ((hb3.block w.heap.size (by omega)).trans HXK.out)
          have HL3 : Hid (w3.heap[W0.heap.size]? = W1.heap[W0.heap.size]?) := Lib.hid ((hb3.block _ hsr).trans HLB.out)
          have HO3 : Hid (OwnG KSign 67 (w3.alloc (.cells #[.string c, .int .i64 a, .int .i64 b, .bool ev, .slice A n cp] 67)) W1.heap.size (.slice Av ss.length cv) ss) := Lib.hid (HOK.out.kept (hb3.trans ((Below.refl _ _).alloc (by omega) _)))
          have hszw : W1.heap.size ≤ w3.heap.size := by omega
          clear hv2 hqs hw3 hb3 hv3 hb2 hb2r hk0
          go_upto_region 18 with fail
          rw [← HW3.out]
          clear v0 v1 v2 v3 v4 y0 y1 y2 y3 y4
          have hv3 := HV3.out
          have hx3 := HX3.out
          have v0 : w3.cell? ⟨wr.heap.size, 0, none⟩ = some (.string c) := by simp [World.cell?, hv3]
          have v1 : w3.cell? ⟨wr.heap.size, 1, none⟩ = some (.int .i64 a) := by simp [World.cell?, hv3]
          have v2 : w3.cell? ⟨wr.heap.size, 2, none⟩ = some (.int .i64 b) := by simp [World.cell?, hv3]
          have v3 : w3.cell? ⟨wr.heap.size, 3, none⟩ = some (.bool ev) := by simp [World.cell?, hv3]
          have v4 : w3.cell? ⟨wr.heap.size, 4, none⟩ = some (.slice A n cp) := by simp [World.cell?, hv3]
          have c1 : w3.cell? ⟨w.heap.size, 1, none⟩ = some (.slice Av ss.length cv) := by simp [World.cell?, hx3]
          clear hv3 hx3
          obtain ⟨cells, hown3, hgr3⟩ := HO3.out
          have HGR := Lib.hid hgr3
          have HOS := Lib.hid hown3
          have HRD := Lib.hid (rd_one_sign w3 (c, a, b, ev, (A, n, cp)))
          have hk1 : ss.length + 1 ≤ maxLen := by simp only [maxLen]; omega
          have hk2 : (ss.length + 1) * 64 ≤ 140737488355328 := by omega
          have hbase : W1.heap.size ≤ (w3.alloc (.cells #[.string c, .int .i64 a, .int .i64 b, .bool ev, .slice A n cp] 67)).heap.size := by simp; omega
          clear hgr3 hown3
          go_wp2_with (at_builtin; go_must (refine wpList_append_rd (enc := encS) rfl (.tmp 72) (.tmp 74) _ rfl W1.heap.size 67 i1 _ 5 64 len_S one_S Tryz.underlying22 hi1 hz1 hs1' hb1' rfl (by decide) (.slice Av ss.length cv) ss.length cells rfl HOS.out _ (.slice (some ⟨w3.heap.size, 0, none⟩) 1 1) [(c, a, b, ev, (A, n, cp))] rfl HRD.out hk1 hk2 hbase ?_))
          intro v8 w8 hown8 hg8 hat8
          obtain ⟨A8, c8, hv8⟩ := own_form hown8
          have hv8' : v8 = .slice A8 (ss.length + 1) c8 := hv8
          clear hv8
          subst hv8'
          have hsz8 := hg8.size
          have hbl8 : ∀ j, j < W1.heap.size → w8.heap[j]? = w3.heap[j]? := fun j hj => (hg8.block _ (by simp; omega) (fun e => by have := (HOS.out.lt _ e.symm).1; omega)).trans (((Below.refl w3.heap.size w3).alloc (Nat.le_refl _) _).block j (by omega))
          have hx8 := (hbl8 w.heap.size (by omega)).trans HX3.out
          have hl8 := (hbl8 W0.heap.size (by omega)).trans HL3.out
          have hb8 : Below w.heap.size w w8 := ((HBK.out.trans (HB3.out.mono HBK.out.size)).alloc (by omega) _).grown hg8 (by simp; omega) (fun q hq => by have := (HOS.out.lt q hq).1; omega)
          have HON : Hid (∀ s, q = some s → OwnG KSign 67 w8 W1.heap.size (.slice A8 (ss.length + 1) c8) (ss ++ [s])) := Lib.hid fun s hs => by
            obtain ⟨g1, g2, g3, g4, g5, g6⟩ := HQS.out s hs
            refine OwnG.snoc HGR.out (cs := encS (c, a, b, ev, (A, n, cp))) ⟨.slice A n cp, by rw [g1, g2, g3, g4]; rfl, ?_⟩ ?_ hg8 ?_
            · refine g6.keep fun j hj => ⟨⟨by simp; omega, fun e => ?_, by omega⟩, ?_⟩
              · have := (HOK.out.lt j e).2
                omega
              · exact (((Below.refl w3.heap.size w3).alloc (Nat.le_refl _) _).block j (by omega)).trans (HK3.out j (by omega))
            · exact hown8
            · rcases hat8 with h | h
              · exact .inl h
              · exact .inr ⟨_, h, by simp⟩
          obtain ⟨w9, hw9⟩ : ∃ w9, w9 = w8.setCell ⟨w.heap.size, 1, none⟩ (.slice A8 (ss.length + 1) c8) := ⟨_, rfl⟩
          have hx9 : w9.heap[w.heap.size]? = some (.cells #[.int .i64 p, .slice A8 (ss.length + 1) c8] 24 (0, 0)) := by rw [hw9]; exact gset hx8 _
          have HL9 : Hid (w9.heap[W0.heap.size]? = W1.heap[W0.heap.size]?) := Lib.hid (by rw [hw9, Below.heap_setCell _ ⟨w.heap.size, 1, none⟩ _ _ (by show W0.heap.size ≠ w.heap.size; omega)]; exact hl8)
          have HB9 : Hid (Below w.heap.size w w9) := Lib.hid (by rw [hw9]; exact hb8.setCell (Nat.le_refl _) _)
          have HO9 : Hid (∀ s, q = some s → OwnG KSign 67 w9 W1.heap.size (.slice A8 (ss.length + 1) c8) (ss ++ [s])) := Lib.hid fun s hs => by
            rw [hw9]
            exact (HON.out s hs).aside (grown_set _ _ _) (by intro q hq; cases hq; show w.heap.size < _; omega)
          have hsz9 : W1.heap.size ≤ w9.heap.size := by
            have : w9.heap.size = w8.heap.size := by rw [hw9]; simp [World.setCell]
            simp at hsz8
            omega
          have c1 : w8.cell? ⟨w.heap.size, 1, none⟩ = some (.slice Av ss.length cv) := by simp [World.cell?, hx8]
          have z1 : w8.frozen? ⟨w.heap.size, 1, none⟩ = false := by simp [World.frozen?, hx8]
          have HW9 := Lib.hid hw9
          have HX9 := Lib.hid hx9
          clear hown8 hg8 hat8 hbl8 hx8 hl8 hb8 hw9 hx9 v0 v1 v2 v3 v4 hsz8
          go_upto_region 19 with fail
          rw [← HW9.out]
          clear c1 z1
          have hx9 := HX9.out
          have c0 : w9.cell? ⟨w.heap.size, 0, none⟩ = some (.int .i64 p) := by simp [World.cell?, hx9]
          have c1 : w9.cell? ⟨w.heap.size, 1, none⟩ = some (.slice A8 (ss.length + 1) c8) := by simp [World.cell?, hx9]
          have z0 : w9.frozen? ⟨w.heap.size, 0, none⟩ = false := by simp [World.frozen?, hx9]
          have z1 : w9.frozen? ⟨w.heap.size, 1, none⟩ = false := by simp [World.frozen?, hx9]
          clear hx9
          have HNO : Hid ((q.isSome && en) = false → res = (⟨0, []⟩, (k : Int) + 1, 4)) := Lib.hid fun h => HBAD.out q.isSome (fun he => by rw [Sg.okLine_sign HKP.out (HE1.out he), ← HQ.out]) h
          rcases q with _ | s9
          · have HN := Lib.hid (HNO.out rfl)
            cases en <;> (
            go_wp2_with fail
            refine bodyPost_ret (v := .tuple #[.agg #[.int .i64 0, .slice none 0 0], .int .i64 ((k : Int) + 1), .int .i64 4]) (by simp [results, Tryz.results21, go_sem, c0, c1]) rfl ?_
            exact RetParse.zero HN.out ((HB9.out.setCell (Nat.le_refl _) _).setCell (Nat.le_refl _) _))
          · cases en
            · have HN := Lib.hid (HNO.out rfl)
              go_wp2_with fail
              refine bodyPost_ret (v := .tuple #[.agg #[.int .i64 0, .slice none 0 0], .int .i64 ((k : Int) + 1), .int .i64 4]) (by simp [results, Tryz.results21, go_sem, c0, c1]) rfl ?_
              exact RetParse.zero HN.out ((HB9.out.setCell (Nat.le_refl _) _).setCell (Nat.le_refl _) _)
            · have hPk := HE1.out rfl
              have hkP : k < P.length := (List.getElem?_eq_some_iff.1 hPk).1
              have HNX : Hid (ss ++ [s9] = Sg.signsL (P.take (k + 1)) ∧ ∀ j, j < k + 1 → Sg.okLine P j = true) := Lib.hid (by
                refine ⟨?_, fun j hj => ?_⟩
                · rw [Sg.signsL_next HKP.out hPk HQ.out.symm, ← HSS.out]
                · by_cases e : j = k
                  · rw [e, Sg.okLine_sign HKP.out hPk, ← HQ.out]; rfl
                  · exact HALL.out j (by omega))
              have HO10 := Lib.hid (HO9.out s9 rfl)
              have HPR := Lib.hid (HPER.out HKP.out)
              clear hPk c0 c1 z0 z1
              go_wp2_with fail
              go_roundg (P.length - (k + 1))
              case measure => omega
              case rel => exact ⟨k + 1, p, .slice A8 (ss.length + 1) c8, ss ++ [s9], by omega, by omega, rfl, by go_num, HB9.out, HX9.out, HL9.out, hsz9, HO10.out, HNX.out.1, fun _ => HPR.out, HNX.out.2⟩
      · have hm : P.length = P.length ∧ P ≠ [] ∧ r = [] := by
          rcases HM.out with ⟨h, h2⟩ | ⟨h, -⟩
          · first | exact ⟨h, h2⟩ | exact ⟨rfl, h2⟩
          · omega
        have hkP : k = P.length := by omega
        have hp0 : 0 < k := by rw [hkP]; exact List.length_pos_iff.2 hm.2.1
        have hp := HPER.out hp0
        have hsP : ss = Sg.signsL P := by rw [HSS.out, List.take_of_length_le (by omega)]
        have HRES : Hid (res = if Sg.checkV (Sg.listL P) = 0 then (Sg.listL P, 0, 0) else (⟨0, []⟩, 0, Sg.checkV (Sg.listL P))) := Lib.hid (by rw [HPV.out]; exact Sg.parse_done (fun j hj => HALL.out j (by omega)) hm.2.2 hm.2.1)
        have HFT : Hid (∀ s ∈ Sg.signsL P, Sg.Sign.fits s) := Lib.hid (Sg.signsL_fits fun x hx => by have := (HPC.out x hx).2; omega)
        have HRG : Hid (RdG KSign wr (fun b => b < wr.heap.size ∧ W1.heap.size ≤ b) (.slice Av ss.length cv) (Sg.signsL P)) := Lib.hid (by
          have h := HOK.out.rd
          rw [hsP] at h ⊢
          exact h)
        have HRL : Hid (RdSL wr wr.heap.size (.agg #[.int .i64 p, .slice Av ss.length cv]) (Sg.listL P)) := Lib.hid ⟨⟨.slice Av ss.length cv, by rw [hp]; rfl, HRG.out.keep fun j hj => ⟨hj.1, rfl⟩⟩, HFT.out⟩
        have HCK := Lib.hid (gCheck_any _ _ _ HRL.out)
        have hxr := HXK.out
        have c0 : wr.cell? ⟨w.heap.size, 0, none⟩ = some (.int .i64 p) := by simp [World.cell?, hxr]
        have c1 : wr.cell? ⟨w.heap.size, 1, none⟩ = some (.slice Av ss.length cv) := by simp [World.cell?, hxr]
        have z0 : wr.frozen? ⟨w.heap.size, 0, none⟩ = false := by simp [World.frozen?, hxr]
        have z1 : wr.frozen? ⟨w.heap.size, 1, none⟩ = false := by simp [World.frozen?, hxr]
        have HP := Lib.hid hp
        clear hxr hm hkP hp0 hp hsP
        obtain ⟨er, her⟩ : ∃ er, er = Sg.checkV (Sg.listL P) := ⟨_, rfl⟩
        rw [← her] at HRES HCK
        clear her
        go_wp2_with fail
        refine HCK.out.mono ?_
        rintro e w2 ⟨rfl, hb2⟩
        have HB2 : Hid (Below w.heap.size w w2) := Lib.hid (HBK.out.trans (hb2.mono HBK.out.size))
        have HB2R := Lib.hid hb2
        have hx2 := (hb2.block w.heap.size (by omega)).trans HXK.out
        clear hb2 c0 c1 z0 z1
        have c0 : w2.cell? ⟨w.heap.size, 0, none⟩ = some (.int .i64 p) := by simp [World.cell?, hx2]
        have c1 : w2.cell? ⟨w.heap.size, 1, none⟩ = some (.slice Av ss.length cv) := by simp [World.cell?, hx2]
        have z0 : w2.frozen? ⟨w.heap.size, 0, none⟩ = false := by simp [World.frozen?, hx2]
        have z1 : w2.frozen? ⟨w.heap.size, 1, none⟩ = false := by simp [World.frozen?, hx2]
        clear hx2
        by_cases h0 : er = 0
        · have HR2 : Hid (res = (Sg.listL P, 0, 0)) := Lib.hid (by rw [HRES.out, if_pos h0])
          go_wp2_with fail
          refine bodyPost_ret (v := .tuple #[.agg #[.int .i64 p, .slice Av ss.length cv], .int .i64 0, .int .i64 0]) (by simp [results, Tryz.results21, go_sem, c0, c1]) rfl ?_
          rw [HR2.out]
          refine ⟨_, rfl, ⟨⟨.slice Av ss.length cv, by rw [HP.out]; rfl, HRG.out.keep fun j hj => ⟨?_, ?_⟩⟩, HFT.out⟩, (HB2.out.setCell (Nat.le_refl _) _).setCell (Nat.le_refl _) _⟩
          · have := HB2R.out.size
            simp [World.setCell]
            omega
          · rw [Below.heap_setCell _ ⟨w.heap.size, 1, none⟩ _ _ (by show j ≠ w.heap.size; omega), Below.heap_setCell _ ⟨w.heap.size, 0, none⟩ _ _ (by show j ≠ w.heap.size; omega)]
            exact HB2R.out.block j hj.1
        · have HR2 : Hid (res = (⟨0, []⟩, 0, er)) := Lib.hid (by rw [HRES.out, if_neg h0])
          go_wp2_with fail
          refine bodyPost_ret (v := .tuple #[.agg #[.int .i64 0, .slice none 0 0], .int .i64 0, .int .i64 er]) (by simp [results, Tryz.results21, go_sem, c0, c1]) rfl ?_
          exact RetParse.zero HR2.out ((HB2.out.setCell (Nat.le_refl _) _).setCell (Nat.le_refl _) _)
  · obtain ⟨m, hm⟩ : ∃ m, m = P.length + 1 := ⟨_, rfl⟩
    have HM : Hid ((m = P.length ∧ P ≠ [] ∧ r = []) ∨ (m = P.length + 1 ∧ (r ≠ [] ∨ P = []))) := Lib.hid (.inr ⟨hm, .inl h1⟩)
    have hemp : sl.toList.isEmpty = false := empty_not (by rw [hslr]; exact h1)
    have h0I : (0 : Int) < (P.length : Int) := by omega
    have HMM := Lib.hid hm
    clear h1 hm
    go_upto_region 7 with fail
    rw [← HMM.out]
    clear h0 h0I csl hslr hemp
    go_wp2_with fail
    go_loopg [39] (m) (fun g i wr => ∃ (k : Nat) (p : Int) (vv : Value) (ss : List Sg.Sign), k ≤ P.length ∧ k ≤ m ∧ g = m - k ∧ i = .int .i64 k ∧ Below w.heap.size w wr ∧ wr.heap[w.heap.size]? = some (.cells #[.int .i64 p, vv] 24 (0, 0)) ∧ wr.heap[W0.heap.size]? = W1.heap[W0.heap.size]? ∧ W1.heap.size ≤ wr.heap.size ∧ OwnG KSign 67 wr W1.heap.size vv ss ∧ ss = Sg.signsL (P.take k) ∧ (0 < k → p = Sg.periodsL P) ∧ ∀ j, j < k → Sg.okLine P j = true)
    case atStart => exact ⟨0, 0, .slice none 0 0, [], Nat.zero_le _, Nat.zero_le _, rfl, rfl, HB1.out, HR1.out, rfl, Nat.le_refl _, OwnG.nil _ _ _, rfl, fun h => absurd h (Nat.lt_irrefl _), fun j hj => absurd hj (Nat.not_lt_zero j)⟩
    case round =>
      obtain ⟨k, p, vv, ss, hk, hkm, rfl, rfl, hbel, hx, hlb, hszr, hown, hss, hper, hall⟩ := hrel
      obtain ⟨Av, cv, rfl⟩ := hown.form
      have HBK := Lib.hid hbel
      have HXK := Lib.hid hx
      have HLB := Lib.hid hlb
      have HOK := Lib.hid hown
      have HSS := Lib.hid hss
      have HPER := Lib.hid hper
      have HALL := Lib.hid hall
      have hsr : W0.heap.size < wr.heap.size := by omega
      have hsl : ss.length ≤ k := by rw [hss]; exact Sg.signsL_len _ _
      clear hbel hx hlb hown hss hper hall
      by_cases hlt : k < m
      · obtain ⟨s, hs⟩ : ∃ s, LA[k]? = some s := ⟨_, List.getElem?_eq_getElem (by rcases HM.out with ⟨h, -⟩ | ⟨h, -⟩ <;> omega)⟩
        have f0 := HLC.out k s wr hs HLB.out
        obtain ⟨y, en, hsuf, htrim, hy10, hyl, hen1, hen0⟩ : ∃ (y : List UInt8) (en : Bool), Lib.hasSuffix s.data.toList [10] = en ∧ Lib.trimSuffix s.data.toList [10] = y ∧ (10 : UInt8) ∉ y ∧ y.length ≤ 65536 ∧ (en = true → P[k]? = some y) ∧ (en = false → Sg.parseL P r = (⟨0, []⟩, (k : Int) + 1, 4)) := by
          rcases HLA.out k s hs with ⟨h1, y, h2, h3⟩ | ⟨h1, h3⟩
          · have h4 := HPC.out y (List.mem_of_getElem? h2)
            exact ⟨y, true, by rw [h3]; exact (suffix_yes y).1, by rw [h3]; exact (suffix_yes y).2, h4.1, h4.2, fun _ => h2, fun h => by cases h⟩
          · refine ⟨r, false, by rw [h3]; exact (suffix_no HRC.out.1).1, by rw [h3]; exact (suffix_no HRC.out.1).2, HRC.out.1, HRC.out.2, (fun h => by cases h), fun _ => ?_⟩
            rw [h1]
            refine Sg.parse_open (fun j hj => HALL.out j (by omega)) ?_
            rcases HM.out with ⟨h, -⟩ | ⟨-, h⟩
            · omega
            · exact h
        have HSUF : Hid (∀ W, Calls Tryz.prog 57 #[.string s, .string ⟨#[10]⟩] W (fun e w' => e = .returned (.tuple #[.string (Sg.bs y), .bool en]) ∧ w' = W)) := Lib.hid fun W => by
          have hz : s.size ≤ 9223372036854775807 := by
            have h1 : s.size = s.data.toList.length := rfl
            rcases HLA.out k s hs with ⟨-, y, h2, h3⟩ | ⟨-, h3⟩
            · have := (HPC.out y (List.mem_of_getElem? h2)).2
              rw [h1, h3]; simp; omega
            · have := HRC.out.2
              rw [h1, h3]; omega
          have := Tryz.strings_CutSuffix s ⟨#[10]⟩ W hz
          have e : (⟨#[10]⟩ : ByteArray).data.toList = [10] := rfl
          rw [e, hsuf, htrim] at this
          exact this
        have HE1 := Lib.hid hen1
        have HE0 := Lib.hid hen0
        have HY10 := Lib.hid hy10
        have hkI : (0 : Int) ≤ (k : Int) := by omega
        have hkW : (k : Int) + 1 ≤ 65537 := by omega
        have HBAD : Hid (∀ okk : Bool, (en = true → Sg.okLine P k = okk) → (okk && en) = false → res = (⟨0, []⟩, (k : Int) + 1, 4)) := Lib.hid fun okk h1 h2 => by
          rw [HPV.out]
          cases en with
          | false => exact HE0.out rfl
          | true =>
            have h3 : okk = false := by simpa using h2
            exact Sg.parse_bad ((List.getElem?_eq_some_iff.1 (HE1.out rfl)).1) HALL.out (by rw [h1 rfl, h3])
        clear hs hsuf htrim hen1 hen0 hy10
        rcases Nat.eq_zero_or_pos k with hk0 | hk0
        · have HHF := Lib.hid (Sg.head_fact y)
          have hk0I : ((k : Int) == 0) = true := by rw [beq_iff_eq]; omega
          obtain ⟨d, hd⟩ : ∃ d, d = Lib.trimPrefix y (Sg.perB ++ [32]) := ⟨_, rfl⟩
          obtain ⟨fd, hfd⟩ : ∃ fd, fd = Lib.hasPrefix y (Sg.perB ++ [32]) := ⟨_, rfl⟩
          have hdl : d.length ≤ 65536 := by
            rw [hd]
            unfold Lib.trimPrefix
            split
            · rw [List.length_drop]; omega
            · exact hyl
          have HPFX : Hid (∀ W, Calls Tryz.prog 58 #[.string (Sg.bs y), .string ⟨#[112, 101, 114, 105, 111, 100, 115, 32]⟩] W (fun e w' => e = .returned (.tuple #[.string (Sg.bs d), .bool fd]) ∧ w' = W)) := Lib.hid fun W => by
            have := Tryz.strings_CutPrefix (Sg.bs y) ⟨#[112, 101, 114, 105, 111, 100, 115, 32]⟩ W
            have e : (⟨#[112, 101, 114, 105, 111, 100, 115, 32]⟩ : ByteArray).data.toList = Sg.perB ++ [32] := rfl
            rw [e, Sg.bs_list, ← hd, ← hfd] at this
            exact this
          have HNUM := Lib.hid fun W => gNumber_any (Sg.bs d) W (by rw [Sg.bs_size]; omega)
          simp only [Sg.bs_list] at HNUM
          rw [← hd, ← hfd] at HHF
          obtain ⟨nv, hnv⟩ : ∃ nv, nv = Lx.numV d 3 := ⟨_, rfl⟩
          obtain ⟨nb, hnb⟩ : ∃ nb, nb = Lx.numB d 3 := ⟨_, rfl⟩
          rw [← hnv, ← hnb] at HNUM HHF
          generalize Sg.bs y = Y at HSUF HPFX
          generalize Sg.bs d = D at HPFX HNUM
          clear hd hfd hnv hnb hdl
          have HK0 := Lib.hid hk0
          clear hk0
          go_wp2_with fail
          refine (HSUF.out _).mono ?_
          rintro e wq ⟨rfl, rfl⟩
          rename World => wq
          go_wp2_with fail
          refine (HPFX.out _).mono ?_
          rintro e wq2 ⟨rfl, rfl⟩
          go_wp2_with fail
          refine (HNUM.out _).mono ?_
          rintro e w2 ⟨rfl, hb2⟩
          have hx2 := (hb2.block w.heap.size (by omega)).trans HXK.out
          have HB2 : Hid (Below w.heap.size w w2) := Lib.hid (HBK.out.trans (hb2.mono HBK.out.size))
          obtain ⟨w3, hw3⟩ : ∃ w3, w3 = w2.setCell ⟨w.heap.size, 0, none⟩ (.int .i64 nv) := ⟨_, rfl⟩
          have hx3 : w3.heap[w.heap.size]? = some (.cells #[.int .i64 nv, .slice Av ss.length cv] 24 (0, 0)) := by rw [hw3]; exact gset hx2 _
          have hb3 : Below w.heap.size w w3 := by rw [hw3]; exact HB2.out.setCell (Nat.le_refl _) _
          have HL3 : Hid (w3.heap[W0.heap.size]? = W1.heap[W0.heap.size]?) := Lib.hid (by rw [hw3, Below.heap_setCell _ ⟨w.heap.size, 0, none⟩ _ _ (by show W0.heap.size ≠ w.heap.size; omega)]; exact (hb2.block _ hsr).trans HLB.out)
          have HO3 : Hid (OwnG KSign 67 w3 W1.heap.size (.slice Av ss.length cv) ss) := Lib.hid (by rw [hw3]; exact (HOK.out.kept hb2).aside (grown_set _ _ _) (by intro q hq; cases hq; show w.heap.size < _; omega))
          have hsz3 : W1.heap.size ≤ w3.heap.size := by rw [hw3]; have := hb2.size; simp [World.setCell]; omega
          have c0 : w2.cell? ⟨w.heap.size, 0, none⟩ = some (.int .i64 p) := by simp [World.cell?, hx2]
          have z0 : w2.frozen? ⟨w.heap.size, 0, none⟩ = false := by simp [World.frozen?, hx2]
          have HW3 := Lib.hid hw3
          have HX3 := Lib.hid hx3
          have HB3 := Lib.hid hb3
          clear hb2 hx2 hw3 hx3 hb3
          go_upto_region 15 with fail
          rw [← HW3.out]
          clear c0 z0 f0
          have hx3 := HX3.out
          have c0 : w3.cell? ⟨w.heap.size, 0, none⟩ = some (.int .i64 nv) := by simp [World.cell?, hx3]
          have c1 : w3.cell? ⟨w.heap.size, 1, none⟩ = some (.slice Av ss.length cv) := by simp [World.cell?, hx3]
          have z0 : w3.frozen? ⟨w.heap.size, 0, none⟩ = false := by simp [World.frozen?, hx3]
          have z1 : w3.frozen? ⟨w.heap.size, 1, none⟩ = false := by simp [World.frozen?, hx3]
          clear hx3
          cases hall : (fd && nb && en)
          case false =>
            have HN : Hid (res = (⟨0, []⟩, (k : Int) + 1, 4)) := Lib.hid (by
              have := HBAD.out (fd && nb) (fun he => by have h0 := HE1.out he; rw [HK0.out] at h0 ⊢; rw [Sg.okLine_head h0]; exact HHF.out.1) hall
              have hk00 : (k : Int) = 0 := by have := HK0.out; omega
              rw [hk00] at this ⊢
              exact this)
            cases fd <;> cases nb <;> cases en <;> first
              | (exfalso; cases hall; done)
              | (clear hall
                 go_wp2_with fail
                 refine bodyPost_ret (v := .tuple #[.agg #[.int .i64 0, .slice none 0 0], .int .i64 ((k : Int) + 1), .int .i64 4]) (by simp [results, Tryz.results21, go_sem, c0, c1]) rfl ?_
                 exact RetParse.zero HN.out ((HB3.out.setCell (Nat.le_refl _) _).setCell (Nat.le_refl _) _))
          obtain ⟨⟨rfl, rfl⟩, rfl⟩ : (fd = true ∧ nb = true) ∧ en = true := by simpa using hall
          have hPk := HE1.out rfl
          have hPk0 := hPk
          rw [HK0.out] at hPk0
          have hkP : k < P.length := (List.getElem?_eq_some_iff.1 hPk).1
          have HNX : Hid (ss = Sg.signsL (P.take (k + 1)) ∧ nv = Sg.periodsL P ∧ ∀ j, j < k + 1 → Sg.okLine P j = true) := Lib.hid (by
            have hok : (Sg.headV y).isSome = true := HHF.out.1
            refine ⟨?_, ?_, fun j hj => ?_⟩
            · rw [HSS.out, HK0.out, Sg.signsL_one]; rfl
            · unfold Sg.periodsL
              rw [hPk0]
              exact (HHF.out.2 hok).symm
            · have e : j = 0 := by have := HK0.out; omega
              rw [e, Sg.okLine_head hPk0]
              exact hok)
          clear hPk hPk0 hall c0 c1 z0 z1
          go_wp2_with fail
          go_roundg (m - (k + 1))
          case measure => omega
          case rel => exact ⟨k + 1, nv, .slice Av ss.length cv, ss, by omega, by omega, rfl, by go_num, HB3.out, HX3.out, HL3.out, hsz3, HO3.out, HNX.out.1, fun _ => HNX.out.2.1, HNX.out.2.2⟩
        · have hk0I : ((k : Int) == 0) = false := by rw [beq_eq_false_iff_ne]; omega
          have HKP := Lib.hid hk0
          have HSC := Lib.hid fun (W : World) (hW : Below w.heap.size w W) => gSign_any (Sg.bs y) W (HG.out W hW) (by rw [Sg.bs_size]; omega) (by rw [Sg.bs_list]; exact HY10.out)
          simp only [Sg.bs_list] at HSC
          obtain ⟨q, hq⟩ : ∃ q, q = Sg.signL (Lib.split y [32]) := ⟨_, rfl⟩
          rw [← hq] at HSC
          have HQ := Lib.hid hq
          generalize Sg.bs y = Y at HSUF HSC
          obtain ⟨wA, hwA⟩ : ∃ wA, wA = wr.alloc (.cells #[.string ⟨#[]⟩, .int .i64 0, .int .i64 0, .bool false, .slice none 0 0] 67) := ⟨_, rfl⟩
          have hbA : Below wr.heap.size wr wA := by rw [hwA]; exact (Below.refl _ _).alloc (Nat.le_refl _) _
          have hvA : wA.heap[wr.heap.size]? = some (.cells #[.string ⟨#[]⟩, .int .i64 0, .int .i64 0, .bool false, .slice none 0 0] 67 (0, 0)) := by rw [hwA]; exact heap_alloc_new _ _
          have hsA : wr.heap.size < wA.heap.size := by rw [hwA]; simp
          have HBA := Lib.hid (HBK.out.trans (hbA.mono HBK.out.size))
          have HWA := Lib.hid hwA
          have HBA1 := Lib.hid hbA
          have HVA := Lib.hid hvA
          clear hq hwA hbA hvA hk0
          go_wp2_with fail
          refine (HSUF.out _).mono ?_
          rintro e wq ⟨rfl, hwq⟩
          rw [hwq]
          clear hwq wq
          go_upto_region 17 with fail
          rw [← HWA.out]
          clear f0
          go_wp2_with fail
          refine (HSC.out _ HBA.out).mono ?_
          rintro e w2 ⟨c, a, b, ev, A, n, cp, rfl, hb2, hqs⟩
          have hk0 := HKP.out
          have hv2 := (hb2.block _ hsA).trans HVA.out
          have hb2r : Below wr.heap.size wr w2 := HBA1.out.trans (hb2.mono (by omega))
          have hsz2 := hb2.size
          obtain ⟨w3, hw3⟩ : ∃ w3, w3 = ((((w2.setCell ⟨wr.heap.size, 0, none⟩ (.string c)).setCell ⟨wr.heap.size, 1, none⟩ (.int .i64 a)).setCell ⟨wr.heap.size, 2, none⟩ (.int .i64 b)).setCell ⟨wr.heap.size, 3, none⟩ (.bool ev)).setCell ⟨wr.heap.size, 4, none⟩ (.slice A n cp) := ⟨_, rfl⟩
          have hv3 : w3.heap[wr.heap.size]? = some (.cells #[.string c, .int .i64 a, .int .i64 b, .bool ev, .slice A n cp] 67 (0, 0)) := by rw [hw3]; exact gset (gset (gset (gset (gset hv2 _) _) _) _) _
          have hb3 : Below wr.heap.size wr w3 := by rw [hw3]; exact ((((hb2r.setCell (Nat.le_refl _) _).setCell (Nat.le_refl _) _).setCell (Nat.le_refl _) _).setCell (Nat.le_refl _) _).setCell (Nat.le_refl _) _
          have hsz3 : w2.heap.size = w3.heap.size := by rw [hw3]; simp [World.setCell]
          have HK3 : Hid (∀ j, j ≠ wr.heap.size → w3.heap[j]? = w2.heap[j]?) := Lib.hid fun j hj => by rw [hw3]; exact set5 hj _ _ _ _ _
          have v0 : w2.cell? ⟨wr.heap.size, 0, none⟩ = some (.string ⟨#[]⟩) := by simp [World.cell?, hv2]
          have v1 : w2.cell? ⟨wr.heap.size, 1, none⟩ = some (.int .i64 0) := by simp [World.cell?, hv2]
          have v2 : w2.cell? ⟨wr.heap.size, 2, none⟩ = some (.int .i64 0) := by simp [World.cell?, hv2]
          have v3 : w2.cell? ⟨wr.heap.size, 3, none⟩ = some (.bool false) := by simp [World.cell?, hv2]
          have v4 : w2.cell? ⟨wr.heap.size, 4, none⟩ = some (.slice none 0 0) := by simp [World.cell?, hv2]
          have y0 : w2.frozen? ⟨wr.heap.size, 0, none⟩ = false := by simp [World.frozen?, hv2]
          have y1 : w2.frozen? ⟨wr.heap.size, 1, none⟩ = false := by simp [World.frozen?, hv2]
          have y2 : w2.frozen? ⟨wr.heap.size, 2, none⟩ = false := by simp [World.frozen?, hv2]
          have y3 : w2.frozen? ⟨wr.heap.size, 3, none⟩ = false := by simp [World.frozen?, hv2]
          have y4 : w2.frozen? ⟨wr.heap.size, 4, none⟩ = false := by simp [World.frozen?, hv2]
          have HW3 := Lib.hid hw3
          have HQS := Lib.hid hqs
          have HB3 := Lib.hid hb3
          have HV3 := Lib.hid hv3
          have HX3 := Lib.hid ((hb3.block w.heap.size (by omega)).trans HXK.out)
          have HL3 : Hid (w3.heap[W0.heap.size]? = W1.heap[W0.heap.size]?) := Lib.hid ((hb3.block _ hsr).trans HLB.out)
          have HO3 : Hid (OwnG KSign 67 (w3.alloc (.cells #[.string c, .int .i64 a, .int .i64 b, .bool ev, .slice A n cp] 67)) W1.heap.size (.slice Av ss.length cv) ss) := Lib.hid (HOK.out.kept (hb3.trans ((Below.refl _ _).alloc (by omega) _)))
          have hszw : W1.heap.size ≤ w3.heap.size := by omega
          clear hv2 hqs hw3 hb3 hv3 hb2 hb2r hk0
          go_upto_region 18 with fail
          rw [← HW3.out]
          clear v0 v1 v2 v3 v4 y0 y1 y2 y3 y4
          have hv3 := HV3.out
          have hx3 := HX3.out
          have v0 : w3.cell? ⟨wr.heap.size, 0, none⟩ = some (.string c) := by simp [World.cell?, hv3]
          have v1 : w3.cell? ⟨wr.heap.size, 1, none⟩ = some (.int .i64 a) := by simp [World.cell?, hv3]
          have v2 : w3.cell? ⟨wr.heap.size, 2, none⟩ = some (.int .i64 b) := by simp [World.cell?, hv3]
          have v3 : w3.cell? ⟨wr.heap.size, 3, none⟩ = some (.bool ev) := by simp [World.cell?, hv3]
          have v4 : w3.cell? ⟨wr.heap.size, 4, none⟩ = some (.slice A n cp) := by simp [World.cell?, hv3]
          have c1 : w3.cell? ⟨w.heap.size, 1, none⟩ = some (.slice Av ss.length cv) := by simp [World.cell?, hx3]
          clear hv3 hx3
          obtain ⟨cells, hown3, hgr3⟩ := HO3.out
          have HGR := Lib.hid hgr3
          have HOS := Lib.hid hown3
          have HRD := Lib.hid (rd_one_sign w3 (c, a, b, ev, (A, n, cp)))
          have hk1 : ss.length + 1 ≤ maxLen := by simp only [maxLen]; omega
          have hk2 : (ss.length + 1) * 64 ≤ 140737488355328 := by omega
          have hbase : W1.heap.size ≤ (w3.alloc (.cells #[.string c, .int .i64 a, .int .i64 b, .bool ev, .slice A n cp] 67)).heap.size := by simp; omega
          clear hgr3 hown3
          go_wp2_with (at_builtin; go_must (refine wpList_append_rd (enc := encS) rfl (.tmp 72) (.tmp 74) _ rfl W1.heap.size 67 i1 _ 5 64 len_S one_S Tryz.underlying22 hi1 hz1 hs1' hb1' rfl (by decide) (.slice Av ss.length cv) ss.length cells rfl HOS.out _ (.slice (some ⟨w3.heap.size, 0, none⟩) 1 1) [(c, a, b, ev, (A, n, cp))] rfl HRD.out hk1 hk2 hbase ?_))
          intro v8 w8 hown8 hg8 hat8
          obtain ⟨A8, c8, hv8⟩ := own_form hown8
          have hv8' : v8 = .slice A8 (ss.length + 1) c8 := hv8
          clear hv8
          subst hv8'
          have hsz8 := hg8.size
          have hbl8 : ∀ j, j < W1.heap.size → w8.heap[j]? = w3.heap[j]? := fun j hj => (hg8.block _ (by simp; omega) (fun e => by have := (HOS.out.lt _ e.symm).1; omega)).trans (((Below.refl w3.heap.size w3).alloc (Nat.le_refl _) _).block j (by omega))
          have hx8 := (hbl8 w.heap.size (by omega)).trans HX3.out
          have hl8 := (hbl8 W0.heap.size (by omega)).trans HL3.out
          have hb8 : Below w.heap.size w w8 := ((HBK.out.trans (HB3.out.mono HBK.out.size)).alloc (by omega) _).grown hg8 (by simp; omega) (fun q hq => by have := (HOS.out.lt q hq).1; omega)
          have HON : Hid (∀ s, q = some s → OwnG KSign 67 w8 W1.heap.size (.slice A8 (ss.length + 1) c8) (ss ++ [s])) := Lib.hid fun s hs => by
            obtain ⟨g1, g2, g3, g4, g5, g6⟩ := HQS.out s hs
            refine OwnG.snoc HGR.out (cs := encS (c, a, b, ev, (A, n, cp))) ⟨.slice A n cp, by rw [g1, g2, g3, g4]; rfl, ?_⟩ ?_ hg8 ?_
            · refine g6.keep fun j hj => ⟨⟨by simp; omega, fun e => ?_, by omega⟩, ?_⟩
              · have := (HOK.out.lt j e).2
                omega
              · exact (((Below.refl w3.heap.size w3).alloc (Nat.le_refl _) _).block j (by omega)).trans (HK3.out j (by omega))
            · exact hown8
            · rcases hat8 with h | h
              · exact .inl h
              · exact .inr ⟨_, h, by simp⟩
          obtain ⟨w9, hw9⟩ : ∃ w9, w9 = w8.setCell ⟨w.heap.size, 1, none⟩ (.slice A8 (ss.length + 1) c8) := ⟨_, rfl⟩
          have hx9 : w9.heap[w.heap.size]? = some (.cells #[.int .i64 p, .slice A8 (ss.length + 1) c8] 24 (0, 0)) := by rw [hw9]; exact gset hx8 _
          have HL9 : Hid (w9.heap[W0.heap.size]? = W1.heap[W0.heap.size]?) := Lib.hid (by rw [hw9, Below.heap_setCell _ ⟨w.heap.size, 1, none⟩ _ _ (by show W0.heap.size ≠ w.heap.size; omega)]; exact hl8)
          have HB9 : Hid (Below w.heap.size w w9) := Lib.hid (by rw [hw9]; exact hb8.setCell (Nat.le_refl _) _)
          have HO9 : Hid (∀ s, q = some s → OwnG KSign 67 w9 W1.heap.size (.slice A8 (ss.length + 1) c8) (ss ++ [s])) := Lib.hid fun s hs => by
            rw [hw9]
            exact (HON.out s hs).aside (grown_set _ _ _) (by intro q hq; cases hq; show w.heap.size < _; omega)
          have hsz9 : W1.heap.size ≤ w9.heap.size := by
            have : w9.heap.size = w8.heap.size := by rw [hw9]; simp [World.setCell]
            simp at hsz8
            omega
          have c1 : w8.cell? ⟨w.heap.size, 1, none⟩ = some (.slice Av ss.length cv) := by simp [World.cell?, hx8]
          have z1 : w8.frozen? ⟨w.heap.size, 1, none⟩ = false := by simp [World.frozen?, hx8]
          have HW9 := Lib.hid hw9
          have HX9 := Lib.hid hx9
          clear hown8 hg8 hat8 hbl8 hx8 hl8 hb8 hw9 hx9 v0 v1 v2 v3 v4 hsz8
          go_upto_region 19 with fail
          rw [← HW9.out]
          clear c1 z1
          have hx9 := HX9.out
          have c0 : w9.cell? ⟨w.heap.size, 0, none⟩ = some (.int .i64 p) := by simp [World.cell?, hx9]
          have c1 : w9.cell? ⟨w.heap.size, 1, none⟩ = some (.slice A8 (ss.length + 1) c8) := by simp [World.cell?, hx9]
          have z0 : w9.frozen? ⟨w.heap.size, 0, none⟩ = false := by simp [World.frozen?, hx9]
          have z1 : w9.frozen? ⟨w.heap.size, 1, none⟩ = false := by simp [World.frozen?, hx9]
          clear hx9
          have HNO : Hid ((q.isSome && en) = false → res = (⟨0, []⟩, (k : Int) + 1, 4)) := Lib.hid fun h => HBAD.out q.isSome (fun he => by rw [Sg.okLine_sign HKP.out (HE1.out he), ← HQ.out]) h
          rcases q with _ | s9
          · have HN := Lib.hid (HNO.out rfl)
            cases en <;> (
            go_wp2_with fail
            refine bodyPost_ret (v := .tuple #[.agg #[.int .i64 0, .slice none 0 0], .int .i64 ((k : Int) + 1), .int .i64 4]) (by simp [results, Tryz.results21, go_sem, c0, c1]) rfl ?_
            exact RetParse.zero HN.out ((HB9.out.setCell (Nat.le_refl _) _).setCell (Nat.le_refl _) _))
          · cases en
            · have HN := Lib.hid (HNO.out rfl)
              go_wp2_with fail
              refine bodyPost_ret (v := .tuple #[.agg #[.int .i64 0, .slice none 0 0], .int .i64 ((k : Int) + 1), .int .i64 4]) (by simp [results, Tryz.results21, go_sem, c0, c1]) rfl ?_
              exact RetParse.zero HN.out ((HB9.out.setCell (Nat.le_refl _) _).setCell (Nat.le_refl _) _)
            · have hPk := HE1.out rfl
              have hkP : k < P.length := (List.getElem?_eq_some_iff.1 hPk).1
              have HNX : Hid (ss ++ [s9] = Sg.signsL (P.take (k + 1)) ∧ ∀ j, j < k + 1 → Sg.okLine P j = true) := Lib.hid (by
                refine ⟨?_, fun j hj => ?_⟩
                · rw [Sg.signsL_next HKP.out hPk HQ.out.symm, ← HSS.out]
                · by_cases e : j = k
                  · rw [e, Sg.okLine_sign HKP.out hPk, ← HQ.out]; rfl
                  · exact HALL.out j (by omega))
              have HO10 := Lib.hid (HO9.out s9 rfl)
              have HPR := Lib.hid (HPER.out HKP.out)
              clear hPk c0 c1 z0 z1
              go_wp2_with fail
              go_roundg (m - (k + 1))
              case measure => omega
              case rel => exact ⟨k + 1, p, .slice A8 (ss.length + 1) c8, ss ++ [s9], by omega, by omega, rfl, by go_num, HB9.out, HX9.out, HL9.out, hsz9, HO10.out, HNX.out.1, fun _ => HPR.out, HNX.out.2⟩
      · have hm : m = P.length ∧ P ≠ [] ∧ r = [] := by
          rcases HM.out with ⟨h, h2⟩ | ⟨h, -⟩
          · first | exact ⟨h, h2⟩ | exact ⟨rfl, h2⟩
          · omega
        have hkP : k = P.length := by omega
        have hp0 : 0 < k := by rw [hkP]; exact List.length_pos_iff.2 hm.2.1
        have hp := HPER.out hp0
        have hsP : ss = Sg.signsL P := by rw [HSS.out, List.take_of_length_le (by omega)]
        have HRES : Hid (res = if Sg.checkV (Sg.listL P) = 0 then (Sg.listL P, 0, 0) else (⟨0, []⟩, 0, Sg.checkV (Sg.listL P))) := Lib.hid (by rw [HPV.out]; exact Sg.parse_done (fun j hj => HALL.out j (by omega)) hm.2.2 hm.2.1)
        have HFT : Hid (∀ s ∈ Sg.signsL P, Sg.Sign.fits s) := Lib.hid (Sg.signsL_fits fun x hx => by have := (HPC.out x hx).2; omega)
        have HRG : Hid (RdG KSign wr (fun b => b < wr.heap.size ∧ W1.heap.size ≤ b) (.slice Av ss.length cv) (Sg.signsL P)) := Lib.hid (by
          have h := HOK.out.rd
          rw [hsP] at h ⊢
          exact h)
        have HRL : Hid (RdSL wr wr.heap.size (.agg #[.int .i64 p, .slice Av ss.length cv]) (Sg.listL P)) := Lib.hid ⟨⟨.slice Av ss.length cv, by rw [hp]; rfl, HRG.out.keep fun j hj => ⟨hj.1, rfl⟩⟩, HFT.out⟩
        have HCK := Lib.hid (gCheck_any _ _ _ HRL.out)
        have hxr := HXK.out
        have c0 : wr.cell? ⟨w.heap.size, 0, none⟩ = some (.int .i64 p) := by simp [World.cell?, hxr]
        have c1 : wr.cell? ⟨w.heap.size, 1, none⟩ = some (.slice Av ss.length cv) := by simp [World.cell?, hxr]
        have z0 : wr.frozen? ⟨w.heap.size, 0, none⟩ = false := by simp [World.frozen?, hxr]
        have z1 : wr.frozen? ⟨w.heap.size, 1, none⟩ = false := by simp [World.frozen?, hxr]
        have HP := Lib.hid hp
        clear hxr hm hkP hp0 hp hsP
        obtain ⟨er, her⟩ : ∃ er, er = Sg.checkV (Sg.listL P) := ⟨_, rfl⟩
        rw [← her] at HRES HCK
        clear her
        go_wp2_with fail
        refine HCK.out.mono ?_
        rintro e w2 ⟨rfl, hb2⟩
        have HB2 : Hid (Below w.heap.size w w2) := Lib.hid (HBK.out.trans (hb2.mono HBK.out.size))
        have HB2R := Lib.hid hb2
        have hx2 := (hb2.block w.heap.size (by omega)).trans HXK.out
        clear hb2 c0 c1 z0 z1
        have c0 : w2.cell? ⟨w.heap.size, 0, none⟩ = some (.int .i64 p) := by simp [World.cell?, hx2]
        have c1 : w2.cell? ⟨w.heap.size, 1, none⟩ = some (.slice Av ss.length cv) := by simp [World.cell?, hx2]
        have z0 : w2.frozen? ⟨w.heap.size, 0, none⟩ = false := by simp [World.frozen?, hx2]
        have z1 : w2.frozen? ⟨w.heap.size, 1, none⟩ = false := by simp [World.frozen?, hx2]
        clear hx2
        by_cases h0 : er = 0
        · have HR2 : Hid (res = (Sg.listL P, 0, 0)) := Lib.hid (by rw [HRES.out, if_pos h0])
          go_wp2_with fail
          refine bodyPost_ret (v := .tuple #[.agg #[.int .i64 p, .slice Av ss.length cv], .int .i64 0, .int .i64 0]) (by simp [results, Tryz.results21, go_sem, c0, c1]) rfl ?_
          rw [HR2.out]
          refine ⟨_, rfl, ⟨⟨.slice Av ss.length cv, by rw [HP.out]; rfl, HRG.out.keep fun j hj => ⟨?_, ?_⟩⟩, HFT.out⟩, (HB2.out.setCell (Nat.le_refl _) _).setCell (Nat.le_refl _) _⟩
          · have := HB2R.out.size
            simp [World.setCell]
            omega
          · rw [Below.heap_setCell _ ⟨w.heap.size, 1, none⟩ _ _ (by show j ≠ w.heap.size; omega), Below.heap_setCell _ ⟨w.heap.size, 0, none⟩ _ _ (by show j ≠ w.heap.size; omega)]
            exact HB2R.out.block j hj.1
        · have HR2 : Hid (res = (⟨0, []⟩, 0, er)) := Lib.hid (by rw [HRES.out, if_neg h0])
          go_wp2_with fail
          refine bodyPost_ret (v := .tuple #[.agg #[.int .i64 0, .slice none 0 0], .int .i64 0, .int .i64 er]) (by simp [results, Tryz.results21, go_sem, c0, c1]) rfl ?_
          exact RetParse.zero HR2.out ((HB2.out.setCell (Nat.le_refl _) _).setCell (Nat.le_refl _) _)
end Go.Proofs.YtkmimjngmfdpmaaGreatDoor
