/- ostraconref02.Kids and Leaf.; ostraconref01.collide. -/
import Derived.Test.YtenmkbpdkfhbjaaGreatQaTxBox
import Derived.Test.YtenmkbpdkfhbjaaGreatQaGlossPlain
import Derived.Test.YtenmkbpdkfhbjaaGreatQaBuild
import Derived.Test.YtenmkbpdkfhbjaaGreatQaSgMeet
namespace Tx
/-- the places from a to k that have a depth -/
def placesV (ns : List Node) (d : Int) (a k : Nat) : List Nat := (List.range' a (k - a)).filter fun j => decide (dp ns j = d)
theorem placesV_none (ns : List Node) (d : Int) (a : Nat) : placesV ns d a a = [] := by unfold placesV; rw [Nat.sub_self]; rfl
theorem placesV_succ (ns : List Node) (d : Int) {a k : Nat} (h : a ≤ k) : placesV ns d a (k + 1) = placesV ns d a k ++ (if dp ns k = d then [k] else []) := by
  unfold placesV
  rw [show k + 1 - a = (k - a) + 1 by omega, List.range'_concat, List.filter_append, show a + 1 * (k - a) = k by omega]
  congr 1
  rw [List.filter_cons]
  split <;> simp_all
theorem placesV_len (ns : List Node) (d : Int) (a k : Nat) : (placesV ns d a k).length ≤ k - a := by
  unfold placesV
  refine Nat.le_trans (List.length_filter_le _ _) (by simp)
theorem placesV_kids (ns : List Node) (i : Nat) : placesV ns (dp ns i + 1) (i + 1) (endV ns i) = kidsV ns i := rfl
theorem kidsV_len (ns : List Node) (i : Nat) (h : i < ns.length) : (kidsV ns i).length ≤ ns.length := by
  have := placesV_len ns (dp ns i + 1) (i + 1) (endV ns i)
  rw [placesV_kids] at this
  have := end_le (ns := ns) h
  omega
end Tx
namespace Go.Proofs.YtenmkbpdkfhbjaaGreat
open Go Go.RowKit

theorem r2Leaf_any (k : Int) (w : World) : Calls Tryz.prog 71 #[.int .i64 k] w (fun e w' => e = .returned (.bool (Tx.leafB k)) ∧ w' = w) := by
  obtain ⟨z1, hz1⟩ : ∃ z, (k == 1) = z := ⟨_, rfl⟩
  obtain ⟨z2, hz2⟩ : ∃ z, (k == 6) = z := ⟨_, rfl⟩
  have HV : Hid (Tx.leafB k = (z1 || z2)) := Lib.hid (by rw [← hz1, ← hz2]; rfl)
  cases z1 <;> cases z2 <;> (go_enter Tryz.func71, Tryz.ntmps71; go_wp2_with fail; go_ret; exact ⟨by rw [HV.out]; rfl, rfl⟩)
/-- a list of places, of the call's own -/
def RetNs (ks : List Nat) (w : World) (e : Ending) (w' : World) : Prop := ∃ A c, e = .returned (.slice A ks.length c) ∧ Below w.heap.size w w' ∧ w'.ownsRow w.heap.size 3 1 (.slice A ks.length c) ks.length ((ks.map Int.ofNat).flatMap encInt)
theorem RetNs.rd {ks : List Nat} {w w' : World} {e : Ending} (h : RetNs ks w e w') : ∃ A c, e = .returned (.slice A ks.length c) ∧ Below w.heap.size w w' ∧ RdS w' w'.heap.size 1 encInt (.slice A ks.length c) (ks.map Int.ofNat) := by
  obtain ⟨A, c, q1, q2, q3⟩ := h
  exact ⟨A, c, q1, q2, rds_of_own len_int (by rw [List.length_map]; exact q3)⟩
set_option maxRecDepth 100000 in
set_option maxHeartbeats 16000000 in
/-- the scan: from a place on, as long as the nodes are deep enough -/
theorem r2Kids_scan (ns : List Tx.Node) (w : World) (A : Option Addr) (c : Nat) (node : Int) (d : Int) (a e : Nat) (h : RdN w w.heap.size (.slice A ns.length c) ns) (hn : ns.length ≤ 1000000)
    (hnode : (node = -1 ∧ d = 0 ∧ a = 0) ∨ (∃ i : Nat, i < ns.length ∧ node = i ∧ d = Tx.dp ns i + 1 ∧ a = i + 1 ∧ -1000 ≤ Tx.dp ns i ∧ Tx.dp ns i ≤ 1000))
    (hae : a ≤ e) (hel : e ≤ ns.length) (hin : ∀ j, a ≤ j → j < e → d ≤ Tx.dp ns j) (hend : e = ns.length ∨ Tx.dp ns e < d) :
    Calls Tryz.prog 51 #[.agg #[.slice A ns.length c], .int .i64 node] w (RetNs (Tx.placesV ns d a e) w) := by
  have HR := Lib.hid h
  have hcap : ns.length ≤ c ∧ c ≤ 9223372036854775807 := by
    obtain ⟨A', c', hv, h1, h2, -⟩ := h
    cases hv
    exact ⟨h1, h2⟩
  have HIN := Lib.hid hin
  have HEND := Lib.hid hend
  obtain ⟨Z, hZ⟩ : ∃ Z, Z = w.heap.size := ⟨_, rfl⟩
  have HZ := Lib.hid hZ
  obtain ⟨i1, hi1, hz1, hs1, hb1⟩ := info_parts info_int
  have hnI : (ns.length : Int) ≤ 1000000 := by omega
  have hIN2 : ∀ k, a ≤ k → k ≤ e → (k < e ↔ (k < ns.length ∧ d ≤ Tx.dp ns k)) := fun k q1 q2 => by
    constructor
    · exact fun q => ⟨by omega, hin k q1 q⟩
    · intro ⟨q3, q4⟩
      rcases hend with q | q
      · omega
      · rcases Nat.lt_or_ge k e with r | r
        · exact r
        · have : k = e := by omega
          subst this
          omega
  have HIF := Lib.hid hIN2
  have HRES : Hid (∀ A c W', Below Z w W' → W'.ownsRow Z 3 1 (.slice A (Tx.placesV ns d a e).length c) (Tx.placesV ns d a e).length (((Tx.placesV ns d a e).map Int.ofNat).flatMap encInt) → RetNs (Tx.placesV ns d a e) w (.returned (.slice A (Tx.placesV ns d a e).length c)) W') := Lib.hid fun A c W' q1 q2 => by
    rw [hZ] at q1 q2
    exact ⟨A, c, rfl, q1, q2⟩
  obtain ⟨G, hG⟩ : ∃ G, G = w.alloc (.cells #[.slice A ns.length c] 27) := ⟨_, rfl⟩
  have hbl : Below Z w G := by rw [hG, hZ]; exact (Below.refl _ _).alloc (Nat.le_refl _) _
  have b1 : G.heap[Z]? = some (.cells #[.slice A ns.length c] 27 (0, 0)) := by rw [hG, hZ]; exact heap_alloc_new _ _
  have hsz : G.heap.size = Z + 1 := by rw [hG, hZ]; simp
  have HB1 := Lib.hid b1
  have HBL := Lib.hid hbl
  have x0 := bx_cell b1
  have HAE := Lib.hid hae
  have HEL := Lib.hid hel
  have HSZ := Lib.hid hsz
  have HRD : Hid (∀ W, Below Z w W → ∀ k, k < ns.length → ∃ b off, A = some ⟨b, off, none⟩ ∧ W.cell? ⟨b, off + k * 8 + 1, none⟩ = some (.int .i64 (Tx.dp ns k))) := Lib.hid fun W hW k hk => by
    obtain ⟨b, off, hA, hb, hcell⟩ := HR.out.eight (by omega)
    exact ⟨b, off, hA, (World.cell?_of_block (by rw [HZ.out] at hW; exact hW.block b hb)).trans (hcell k hk).2.1⟩
  have HGO : Hid (∀ (T : Array Value), T.size = 49 → T[1]? = some (.int .i64 node) → T[2]? = some (.pointer (some ⟨Z, 0, none⟩)) → T[5]? = some (.slice none 0 0) → T[6]? = some (.int .i64 d) → True) := Lib.hid fun _ _ _ _ _ _ => trivial
  clear hin hend hIN2 hZ hbl b1 hsz h HGO
  rcases hnode with ⟨rfl, rfl, rfl⟩ | ⟨i, hi, rfl, hd, rfl, hlo, hhi⟩
  · go_enter Tryz.func51, Tryz.ntmps51
    go_wp2_with fail
    rw [← HZ.out, ← hG]
    clear hG
    go_loopg [5, 7] (e - 0) (fun g u v wr => ∃ k : Nat, 0 ≤ k ∧ k ≤ e ∧ g = e - k ∧ v = .int .i64 (k : Int) ∧ Below (Z + 1) G wr ∧ wr.ownsRow Z 3 1 u (Tx.placesV ns (0 : Int) 0 k).length (((Tx.placesV ns (0 : Int) 0 k).map Int.ofNat).flatMap encInt))
    case atStart => exact ⟨0, Nat.le_refl _, HAE.out, rfl, by simp, Below.refl _ _, by rw [Tx.placesV_none]; exact World.ownsRow_nil _ _ _ _⟩
    case round =>
      obtain ⟨k, hka, hke, rfl, rfl, hbr, hown⟩ := hrel
      obtain ⟨F, hF⟩ : ∃ F, F = Tx.placesV ns (0 : Int) 0 k := ⟨_, rfl⟩
      rw [← hF] at hown
      obtain ⟨Ao, co, rfl⟩ := own_form hown
      have hFl : F.length ≤ 1000000 := by rw [hF]; have := Tx.placesV_len ns (0 : Int) 0 k; omega
      have HF := Lib.hid hF
      have HBR := Lib.hid hbr
      have HO := Lib.hid hown
      have HBW := Lib.hid (HBL.out.trans (hbr.mono (by omega)))
      have hzr : Z + 1 ≤ wr.heap.size := by have := hbr.size; have := HSZ.out; omega
      have x0 := bx_cell ((hbr.block Z (by omega)).trans HB1.out)
      have HIFK := Lib.hid (HIF.out k hka hke)
      clear hF hbr hown
      by_cases hkl : k < ns.length
      · have hkI : (k : Int) < (ns.length : Int) := by omega
        have hk0 : (0 : Int) ≤ (k : Int) := by omega
        obtain ⟨bq, oq, hA, q1⟩ := HRD.out wr HBW.out k hkl
        subst hA
        obtain ⟨dk, hdk⟩ : ∃ dk, dk = Tx.dp ns k := ⟨_, rfl⟩
        rw [← hdk] at q1
        have HDK := Lib.hid hdk
        by_cases hdd : (0 : Int) ≤ dk
        · have d1 : decide ((0 : Int) ≤ dk) = true := decide_eq_true hdd
          have hlt : k < e := HIFK.out.2 ⟨hkl, by rw [← hdk]; exact hdd⟩
          clear hdd hdk
          by_cases heq : dk = (0 : Int)
          · have d2 : (dk == (0 : Int)) = true := by simp [heq]
            have HN1 : Hid (Tx.placesV ns (0 : Int) 0 (k + 1) = F ++ [k]) := Lib.hid (by rw [Tx.placesV_succ ns (0 : Int) (a := 0) (k := k) hka, ← HF.out, if_pos (by rw [← HDK.out]; exact heq)])
            clear heq
            have hal : Below wr.heap.size wr (wr.alloc (.cells #[.int .i64 (k : Int)] 3)) := (Below.refl _ _).alloc (Nat.le_refl _) _
            have HO6 := Lib.hid (own_below HO.out hal)
            have HAL := Lib.hid hal
            have HRX : Hid (RdS (wr.alloc (.cells #[.int .i64 (k : Int)] 3)) (wr.alloc (.cells #[.int .i64 (k : Int)] 3)).heap.size 1 encInt (.slice (some ⟨wr.heap.size, 0, none⟩) 1 1) [(k : Int)]) := Lib.hid (rds_block (xs := [(k : Int)]) len_int (heap_alloc_new _ _) rfl (by simp) (Nat.le_refl 1) (by decide))
            have hm1 : F.length + [(k : Int)].length ≤ maxLen := by simp [maxLen]; omega
            have hm2 : (F.length + [(k : Int)].length) * 8 ≤ 140737488355328 := by simp; omega
            have hm3 : Z ≤ (wr.alloc (.cells #[.int .i64 (k : Int)] 3)).heap.size := by simp; omega
            have HM1 := Lib.hid hm1
            have HM2 := Lib.hid hm2
            have HM3 := Lib.hid hm3
            clear hal hm1 hm2 hm3
            go_wp2_with (at_builtin; (refine wpList_append_rd (enc := encInt) rfl (.tmp 44) (.tmp 46) _ rfl Z 3 i1 _ 1 8 len_int one_int Tryz.underlying32 hi1 hz1 hs1 hb1 rfl (by decide) (.slice Ao F.length co) F.length ((F.map Int.ofNat).flatMap encInt) rfl HO6.out _ (.slice (some ⟨wr.heap.size, 0, none⟩) 1 1) [(k : Int)] rfl HRX.out HM1.out HM2.out HM3.out ?_))
            intro v8 w8 hown8 hg8 hat8
            have HB8 : Hid (Below (Z + 1) G w8) := Lib.hid ((HBR.out.trans (HAL.out.mono hzr)).grown hg8 (by simp; omega) fun q hq => by
              have h1 := (HO6.out.lt q hq).1
              have h2 : q ≠ Z := fun e => by
                have := HO6.out.1
                rcases HO6.out.2 with ⟨hv, -⟩ | ⟨g, cap, cur, hv, hg, hh, -⟩
                · rw [hv] at hq; cases hq
                · rw [hv] at hq
                  have e3 : g = q := by simpa [Value.ownBlock] using hq
                  rw [e3, e] at hh
                  have hz := ((HBR.out.trans (HAL.out.mono hzr)).block Z (by omega)).trans HB1.out
                  rw [hh] at hz
                  injection hz with hz
                  injection hz with _ hz
                  exact absurd hz (by decide)
              omega)
            have HO8 : Hid (w8.ownsRow Z 3 1 v8 (F ++ [k]).length (((F ++ [k]).map Int.ofNat).flatMap encInt)) := Lib.hid (by rw [List.length_append, List.map_append, List.flatMap_append]; exact hown8)
            clear hown8 hg8 hat8
            go_wp2_with fail
            go_roundg (e - (k + 1))
            case measure => omega
            case rel => exact ⟨k + 1, by omega, by omega, rfl, by go_num, HB8.out, by rw [HN1.out]; exact HO8.out⟩
          · have d2 : (dk == (0 : Int)) = false := by simp [heq]
            have HN1 : Hid (Tx.placesV ns (0 : Int) 0 (k + 1) = F) := Lib.hid (by rw [Tx.placesV_succ ns (0 : Int) (a := 0) (k := k) hka, ← HF.out, if_neg (by rw [← HDK.out]; exact heq), List.append_nil])
            clear heq
            go_wp2_with fail
            go_roundg (e - (k + 1))
            case measure => omega
            case rel => exact ⟨k + 1, by omega, by omega, rfl, by go_num, HBR.out, by rw [HN1.out]; exact HO.out⟩
        · have d1 : decide ((0 : Int) ≤ dk) = false := decide_eq_false hdd
          have hge : ¬ k < e := fun q => hdd (by rw [hdk]; exact (HIFK.out.1 q).2)
          have hke2 : k = e := by omega
          have HFE : Hid (F = Tx.placesV ns (0 : Int) 0 e) := Lib.hid (by rw [HF.out, hke2])
          clear hdd hke2 hdk
          go_wp2_with fail
          go_ret
          rw [HFE.out]
          refine HRES.out Ao co wr HBW.out ?_
          rw [← HFE.out]
          exact HO.out
      · have hkI : ¬ (k : Int) < (ns.length : Int) := by omega
        have hge : ¬ k < e := fun q => hkl (HIFK.out.1 q).1
        have hke2 : k = e := by omega
        have HFE : Hid (F = Tx.placesV ns (0 : Int) 0 e) := Lib.hid (by rw [HF.out, hke2])
        clear hke2
        go_wp2_with fail
        go_ret
        rw [HFE.out]
        refine HRES.out Ao co wr HBW.out ?_
        rw [← HFE.out]
        exact HO.out
  · obtain ⟨b, off, rfl, hq⟩ := HRD.out G HBL.out i hi
    have hiI : (i : Int) < (ns.length : Int) := by omega
    have hi0 : (0 : Int) ≤ (i : Int) := by omega
    obtain ⟨di, hdi⟩ : ∃ di, di = Tx.dp ns i := ⟨_, rfl⟩
    rw [← hdi] at hq hlo hhi hd
    have HD := Lib.hid hd
    have HDI := Lib.hid hdi
    clear hdi
    go_enter Tryz.func51, Tryz.ntmps51
    go_upto_region 3 with fail
    rw [← HZ.out, ← hG]
    clear hG
    go_wp2_with fail
    rw [← hd]
    clear hq hd hlo hhi
    go_loopg [5, 7] (e - (i + 1)) (fun g u v wr => ∃ k : Nat, (i + 1) ≤ k ∧ k ≤ e ∧ g = e - k ∧ v = .int .i64 (k : Int) ∧ Below (Z + 1) G wr ∧ wr.ownsRow Z 3 1 u (Tx.placesV ns d (i + 1) k).length (((Tx.placesV ns d (i + 1) k).map Int.ofNat).flatMap encInt))
    case atStart => exact ⟨(i + 1), Nat.le_refl _, HAE.out, rfl, by simp, Below.refl _ _, by rw [Tx.placesV_none]; exact World.ownsRow_nil _ _ _ _⟩
    case round =>
      obtain ⟨k, hka, hke, rfl, rfl, hbr, hown⟩ := hrel
      obtain ⟨F, hF⟩ : ∃ F, F = Tx.placesV ns d (i + 1) k := ⟨_, rfl⟩
      rw [← hF] at hown
      obtain ⟨Ao, co, rfl⟩ := own_form hown
      have hFl : F.length ≤ 1000000 := by rw [hF]; have := Tx.placesV_len ns d (i + 1) k; omega
      have HF := Lib.hid hF
      have HBR := Lib.hid hbr
      have HO := Lib.hid hown
      have HBW := Lib.hid (HBL.out.trans (hbr.mono (by omega)))
      have hzr : Z + 1 ≤ wr.heap.size := by have := hbr.size; have := HSZ.out; omega
      have x0 := bx_cell ((hbr.block Z (by omega)).trans HB1.out)
      have HIFK := Lib.hid (HIF.out k hka hke)
      clear hF hbr hown
      by_cases hkl : k < ns.length
      · have hkI : (k : Int) < (ns.length : Int) := by omega
        have hk0 : (0 : Int) ≤ (k : Int) := by omega
        obtain ⟨bq, oq, hA, q1⟩ := HRD.out wr HBW.out k hkl
        cases hA
        obtain ⟨dk, hdk⟩ : ∃ dk, dk = Tx.dp ns k := ⟨_, rfl⟩
        rw [← hdk] at q1
        have HDK := Lib.hid hdk
        by_cases hdd : d ≤ dk
        · have d1 : decide (d ≤ dk) = true := decide_eq_true hdd
          have hlt : k < e := HIFK.out.2 ⟨hkl, by rw [← hdk]; exact hdd⟩
          clear hdd hdk
          by_cases heq : dk = d
          · have d2 : (dk == d) = true := by simp [heq]
            have HN1 : Hid (Tx.placesV ns d (i + 1) (k + 1) = F ++ [k]) := Lib.hid (by rw [Tx.placesV_succ ns d (a := (i + 1)) (k := k) hka, ← HF.out, if_pos (by rw [← HDK.out]; exact heq)])
            clear heq
            have hal : Below wr.heap.size wr (wr.alloc (.cells #[.int .i64 (k : Int)] 3)) := (Below.refl _ _).alloc (Nat.le_refl _) _
            have HO6 := Lib.hid (own_below HO.out hal)
            have HAL := Lib.hid hal
            have HRX : Hid (RdS (wr.alloc (.cells #[.int .i64 (k : Int)] 3)) (wr.alloc (.cells #[.int .i64 (k : Int)] 3)).heap.size 1 encInt (.slice (some ⟨wr.heap.size, 0, none⟩) 1 1) [(k : Int)]) := Lib.hid (rds_block (xs := [(k : Int)]) len_int (heap_alloc_new _ _) rfl (by simp) (Nat.le_refl 1) (by decide))
            have hm1 : F.length + [(k : Int)].length ≤ maxLen := by simp [maxLen]; omega
            have hm2 : (F.length + [(k : Int)].length) * 8 ≤ 140737488355328 := by simp; omega
            have hm3 : Z ≤ (wr.alloc (.cells #[.int .i64 (k : Int)] 3)).heap.size := by simp; omega
            have HM1 := Lib.hid hm1
            have HM2 := Lib.hid hm2
            have HM3 := Lib.hid hm3
            clear hal hm1 hm2 hm3
            go_wp2_with (at_builtin; (refine wpList_append_rd (enc := encInt) rfl (.tmp 44) (.tmp 46) _ rfl Z 3 i1 _ 1 8 len_int one_int Tryz.underlying32 hi1 hz1 hs1 hb1 rfl (by decide) (.slice Ao F.length co) F.length ((F.map Int.ofNat).flatMap encInt) rfl HO6.out _ (.slice (some ⟨wr.heap.size, 0, none⟩) 1 1) [(k : Int)] rfl HRX.out HM1.out HM2.out HM3.out ?_))
            intro v8 w8 hown8 hg8 hat8
            have HB8 : Hid (Below (Z + 1) G w8) := Lib.hid ((HBR.out.trans (HAL.out.mono hzr)).grown hg8 (by simp; omega) fun q hq => by
              have h1 := (HO6.out.lt q hq).1
              have h2 : q ≠ Z := fun e => by
                have := HO6.out.1
                rcases HO6.out.2 with ⟨hv, -⟩ | ⟨g, cap, cur, hv, hg, hh, -⟩
                · rw [hv] at hq; cases hq
                · rw [hv] at hq
                  have e3 : g = q := by simpa [Value.ownBlock] using hq
                  rw [e3, e] at hh
                  have hz := ((HBR.out.trans (HAL.out.mono hzr)).block Z (by omega)).trans HB1.out
                  rw [hh] at hz
                  injection hz with hz
                  injection hz with _ hz
                  exact absurd hz (by decide)
              omega)
            have HO8 : Hid (w8.ownsRow Z 3 1 v8 (F ++ [k]).length (((F ++ [k]).map Int.ofNat).flatMap encInt)) := Lib.hid (by rw [List.length_append, List.map_append, List.flatMap_append]; exact hown8)
            clear hown8 hg8 hat8
            go_wp2_with fail
            go_roundg (e - (k + 1))
            case measure => omega
            case rel => exact ⟨k + 1, by omega, by omega, rfl, by go_num, HB8.out, by rw [HN1.out]; exact HO8.out⟩
          · have d2 : (dk == d) = false := by simp [heq]
            have HN1 : Hid (Tx.placesV ns d (i + 1) (k + 1) = F) := Lib.hid (by rw [Tx.placesV_succ ns d (a := (i + 1)) (k := k) hka, ← HF.out, if_neg (by rw [← HDK.out]; exact heq), List.append_nil])
            clear heq
            go_wp2_with fail
            go_roundg (e - (k + 1))
            case measure => omega
            case rel => exact ⟨k + 1, by omega, by omega, rfl, by go_num, HBR.out, by rw [HN1.out]; exact HO.out⟩
        · have d1 : decide (d ≤ dk) = false := decide_eq_false hdd
          have hge : ¬ k < e := fun q => hdd (by rw [hdk]; exact (HIFK.out.1 q).2)
          have hke2 : k = e := by omega
          have HFE : Hid (F = Tx.placesV ns d (i + 1) e) := Lib.hid (by rw [HF.out, hke2])
          clear hdd hke2 hdk
          go_wp2_with fail
          go_ret
          rw [HFE.out]
          refine HRES.out Ao co wr HBW.out ?_
          rw [← HFE.out]
          exact HO.out
      · have hkI : ¬ (k : Int) < (ns.length : Int) := by omega
        have hge : ¬ k < e := fun q => hkl (HIFK.out.1 q).1
        have hke2 : k = e := by omega
        have HFE : Hid (F = Tx.placesV ns d (i + 1) e) := Lib.hid (by rw [HF.out, hke2])
        clear hke2
        go_wp2_with fail
        go_ret
        rw [HFE.out]
        refine HRES.out Ao co wr HBW.out ?_
        rw [← HFE.out]
        exact HO.out
end Go.Proofs.YtenmkbpdkfhbjaaGreat
namespace Go.Proofs.YtenmkbpdkfhbjaaGreat
open Go Go.RowKit

set_option maxRecDepth 100000 in
set_option maxHeartbeats 2000000 in
theorem r1collide_any (a b : Sg.Value) (w : World) : Calls Tryz.prog 88 #[.agg #[.int .i64 a.kind, .string a.text, .int .i64 a.lo, .int .i64 a.hi], .agg #[.int .i64 b.kind, .string b.text, .int .i64 b.lo, .int .i64 b.hi]] w (RetBB (Sg.meetB a b) w) := by
  obtain ⟨ka, sa, la, ua⟩ := a
  obtain ⟨kb, sb, lb, ub⟩ := b
  have HB : Hid (Below w.heap.size w ((w.alloc (.cells #[.int .i64 ka, .string sa, .int .i64 la, .int .i64 ua] 103)).alloc (.cells #[.int .i64 kb, .string sb, .int .i64 lb, .int .i64 ub] 103))) := Lib.hid (((Below.refl _ _).alloc (Nat.le_refl _) _).alloc (by simp) _)
  by_cases hk : ka = kb
  · subst hk
    by_cases hs : sa = sb
    · subst hs
      have HM : Hid (Sg.meetB ⟨ka, sa, la, ua⟩ ⟨ka, sa, lb, ub⟩ = (decide (la ≤ ub) && decide (lb ≤ ua))) := Lib.hid (by simp [Sg.meetB])
      by_cases h1 : la ≤ ub
      · by_cases h2 : lb ≤ ua
        · have HF := Lib.hid (HM.out.trans (by simp [h1, h2] : _ = true))
          go_enter Tryz.func88, Tryz.ntmps88
          go_wp2_with fail
          go_ret
          exact ⟨ret_bool (by rw [HF.out]), HB.out⟩
        · have HF := Lib.hid (HM.out.trans (by simp [h1, h2] : _ = false))
          go_enter Tryz.func88, Tryz.ntmps88
          go_wp2_with fail
          go_ret
          exact ⟨ret_bool (by rw [HF.out]; try simp), HB.out⟩
      · have HF := Lib.hid (HM.out.trans (by simp [h1] : _ = false))
        go_enter Tryz.func88, Tryz.ntmps88
        go_wp2_with fail
        go_ret
        exact ⟨ret_bool (by rw [HF.out]), HB.out⟩
    · have ht : (sa.toList == sb.toList) = false := Lx.toList_ne hs
      have HF : Hid (Sg.meetB ⟨ka, sa, la, ua⟩ ⟨ka, sb, lb, ub⟩ = false) := Lib.hid (by simp [Sg.meetB, hs])
      clear hs
      go_enter Tryz.func88, Tryz.ntmps88
      go_wp2_with fail
      go_ret
      exact ⟨ret_bool (by rw [HF.out]), HB.out⟩
  · have hk' : (ka == kb) = false := by rw [beq_eq_false_iff_ne]; exact hk
    have HF : Hid (Sg.meetB ⟨ka, sa, la, ua⟩ ⟨kb, sb, lb, ub⟩ = false) := Lib.hid (by simp [Sg.meetB, hk])
    go_enter Tryz.func88, Tryz.ntmps88
    go_wp2_with fail
    go_ret
    exact ⟨ret_bool (by rw [HF.out]), HB.out⟩
end Go.Proofs.YtenmkbpdkfhbjaaGreat
