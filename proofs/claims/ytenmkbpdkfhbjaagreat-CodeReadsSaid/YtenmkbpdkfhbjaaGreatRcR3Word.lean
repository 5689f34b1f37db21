/- ostraconref02.Kids and Leaf.; ostraconref03.word and leaf.; The document's reader: how many bytes two texts have in common; which word it is: plain, and the walk of common. -/
import Derived.Test.YtenmkbpdkfhbjaaGreatRcCdVisit
import Derived.Test.YtenmkbpdkfhbjaaGreatRcShelf
import Derived.Test.YtenmkbpdkfhbjaaGreatRcR3Wrap
import Derived.Test.YtenmkbpdkfhbjaaGreatRcRDec
import Derived.Test.YtenmkbpdkfhbjaaGreatRcR3Part
namespace Tx
def placesV (ns : List Node) (d : Int) (a k : Nat) : List Nat := (List.range' a (k - a)).filter fun j => decide (dp ns j = d)
theorem placesV_none (ns : List Node) (d : Int) (a : Nat) : placesV ns d a a = [] := by unfold placesV; rw [Nat.sub_self]; rfl
theorem placesV_succ (ns : List Node) (d : Int) {a k : Nat} (h : a ≤ k) : placesV ns d a (k + 1) = placesV ns d a k ++ (if dp ns k = d then [k] else []) := by
 unfold placesV
 rw [show k + 1 - a = (k - a) + 1 by omega, List.range'_concat, List.filter_append, show a + 1 * (k - a) = k by omega]
 congr 1
 rw [List.filter_cons]
 split <;> simp_all
theorem placesV_len (ns : List Node) (d : Int) (a k : Nat) : (placesV ns d a k).length ≤ k - a := by
 unfold placesV
 refine Nat.le_trans (List.length_filter_le _ _) (by simp)
theorem placesV_kids (ns : List Node) (i : Nat) : placesV ns (dp ns i + 1) (i + 1) (endV ns i) = kidsV ns i := rfl
theorem kidsV_len (ns : List Node) (i : Nat) (h : i < ns.length) : (kidsV ns i).length ≤ ns.length := by
 have := placesV_len ns (dp ns i + 1) (i + 1) (endV ns i)
 rw [placesV_kids] at this
 have := end_le (ns := ns) h
 omega
end Tx
namespace Go.Proofs.YtenmkbpdkfhbjaaGreat
open Go Go.RowKit

theorem r2Leaf_any (k : Int) (w : World) : Calls Tryz.prog 71 #[.int .i64 k] w (fun e w' => e = .returned (.bool (Tx.leafB k)) ∧ w' = w) := by
 obtain ⟨z1, hz1⟩ : ∃ z, (k == 1) = z := ⟨_, rfl⟩
 obtain ⟨z2, hz2⟩ : ∃ z, (k == 6) = z := ⟨_, rfl⟩
 have HV : Hid (Tx.leafB k = (z1 || z2)) := Lib.hid (by rw [← hz1, ← hz2]; rfl)
 cases z1 <;> cases z2 <;> (go_enter Tryz.func71, Tryz.ntmps71; go_wp2_with fail; go_ret; exact ⟨by rw [HV.out]; rfl, rfl⟩)
def RetNs (ks : List Nat) (w : World) (e : Ending) (w' : World) : Prop := ∃ A c, e = .returned (.slice A ks.length c) ∧ Below w.heap.size w w' ∧ w'.ownsRow w.heap.size 3 1 (.slice A ks.length c) ks.length ((ks.map Int.ofNat).flatMap encInt)
theorem RetNs.rd {ks : List Nat} {w w' : World} {e : Ending} (h : RetNs ks w e w') : ∃ A c, e = .returned (.slice A ks.length c) ∧ Below w.heap.size w w' ∧ RdS w' w'.heap.size 1 encInt (.slice A ks.length c) (ks.map Int.ofNat) := by
 obtain ⟨A, c, q1, q2, q3⟩ := h
 exact ⟨A, c, q1, q2, rds_of_own len_int (by rw [List.length_map]; exact q3)⟩
set_option maxRecDepth 100000 in
set_option maxHeartbeats 16000000 in
theorem r2Kids_scan (ns : List Tx.Node) (w : World) (A : Option Addr) (c : Nat) (node : Int) (d : Int) (a e : Nat) (h : RdN w w.heap.size (.slice A ns.length c) ns) (hn : ns.length ≤ 1000000)
  (hnode : (node = -1 ∧ d = 0 ∧ a = 0) ∨ (∃ i : Nat, i < ns.length ∧ node = i ∧ d = Tx.dp ns i + 1 ∧ a = i + 1 ∧ -1000 ≤ Tx.dp ns i ∧ Tx.dp ns i ≤ 1000))
  (hae : a ≤ e) (hel : e ≤ ns.length) (hin : ∀ j, a ≤ j → j < e → d ≤ Tx.dp ns j) (hend : e = ns.length ∨ Tx.dp ns e < d) :
  Calls Tryz.prog 51 #[.agg #[.slice A ns.length c], .int .i64 node] w (RetNs (Tx.placesV ns d a e) w) := by
 have HR := Lib.hid h
 have hcap : ns.length ≤ c ∧ c ≤ 9223372036854775807 := by
  obtain ⟨A', c', hv, h1, h2, -⟩ := h
  cases hv
  exact ⟨h1, h2⟩
 have HIN := Lib.hid hin
 have HEND := Lib.hid hend
 obtain ⟨Z, hZ⟩ : ∃ Z, Z = w.heap.size := ⟨_, rfl⟩
 have HZ := Lib.hid hZ
 obtain ⟨i1, hi1, hz1, hs1, hb1⟩ := info_parts info_int
 have hnI : (ns.length : Int) ≤ 1000000 := by omega
 have hIN2 : ∀ k, a ≤ k → k ≤ e → (k < e ↔ (k < ns.length ∧ d ≤ Tx.dp ns k)) := fun k q1 q2 => by
  constructor
  ·exact fun q => ⟨by omega, hin k q1 q⟩
  ·intro ⟨q3, q4⟩
   rcases hend with q | q
   ·omega
   ·rcases Nat.lt_or_ge k e with r | r
    ·exact r
    ·have : k = e := by omega
     subst this
     omega
 have HIF := Lib.hid hIN2
 have HRES : Hid (∀ A c W', Below Z w W' → W'.ownsRow Z 3 1 (.slice A (Tx.placesV ns d a e).length c) (Tx.placesV ns d a e).length (((Tx.placesV ns d a e).map Int.ofNat).flatMap encInt) → RetNs (Tx.placesV ns d a e) w (.returned (.slice A (Tx.placesV ns d a e).length c)) W') := Lib.hid fun A c W' q1 q2 => by
  rw [hZ] at q1 q2
  exact ⟨A, c, rfl, q1, q2⟩
 obtain ⟨G, hG⟩ : ∃ G, G = w.alloc (.cells #[.slice A ns.length c] 27) := ⟨_, rfl⟩
 have hbl : Below Z w G := by rw [hG, hZ]; exact (Below.refl _ _).alloc (Nat.le_refl _) _
 have b1 : G.heap[Z]? = some (.cells #[.slice A ns.length c] 27 (0, 0)) := by rw [hG, hZ]; exact heap_alloc_new _ _
 have hsz : G.heap.size = Z + 1 := by rw [hG, hZ]; simp
 have HB1 := Lib.hid b1
 have HBL := Lib.hid hbl
 have x0 := bx_cell b1
 have HAE := Lib.hid hae
 have HEL := Lib.hid hel
 have HSZ := Lib.hid hsz
 have HRD : Hid (∀ W, Below Z w W → ∀ k, k < ns.length → ∃ b off, A = some ⟨b, off, none⟩ ∧ W.cell? ⟨b, off + k * 8 + 1, none⟩ = some (.int .i64 (Tx.dp ns k))) := Lib.hid fun W hW k hk => by
  obtain ⟨b, off, hA, hb, hcell⟩ := HR.out.eight (by omega)
  exact ⟨b, off, hA, (World.cell?_of_block (by rw [HZ.out] at hW; exact hW.block b hb)).trans (hcell k hk).2.1⟩
 have HGO : Hid (∀ (T : Array Value), T.size = 49 → T[1]? = some (.int .i64 node) → T[2]? = some (.pointer (some ⟨Z, 0, none⟩)) → T[5]? = some (.slice none 0 0) → T[6]? = some (.int .i64 d) → True) := Lib.hid fun _ _ _ _ _ _ => trivial
 clear hin hend hIN2 hZ hbl b1 hsz h HGO
 rcases hnode with ⟨rfl, rfl, rfl⟩ | ⟨i, hi, rfl, hd, rfl, hlo, hhi⟩
 ·go_enter Tryz.func51, Tryz.ntmps51
  go_wp2_with fail
  rw [← HZ.out, ← hG]
  clear hG
  go_loopg [5, 7] (e - 0) (fun g u v wr => ∃ k : Nat, 0 ≤ k ∧ k ≤ e ∧ g = e - k ∧ v = .int .i64 (k : Int) ∧ Below (Z + 1) G wr ∧ wr.ownsRow Z 3 1 u (Tx.placesV ns (0 : Int) 0 k).length (((Tx.placesV ns (0 : Int) 0 k).map Int.ofNat).flatMap encInt))
  case atStart => exact ⟨0, Nat.le_refl _, HAE.out, rfl, by simp, Below.refl _ _, by rw [Tx.placesV_none]; exact World.ownsRow_nil _ _ _ _⟩
  case round =>
   obtain ⟨k, hka, hke, rfl, rfl, hbr, hown⟩ := hrel
   obtain ⟨F, hF⟩ : ∃ F, F = Tx.placesV ns (0 : Int) 0 k := ⟨_, rfl⟩
   rw [← hF] at hown
   obtain ⟨Ao, co, rfl⟩ := own_form hown
   have hFl : F.length ≤ 1000000 := by rw [hF]; have := Tx.placesV_len ns (0 : Int) 0 k; omega
   have HF := Lib.hid hF
   have HBR := Lib.hid hbr
   have HO := Lib.hid hown
   have HBW := Lib.hid (HBL.out.trans (hbr.mono (by omega)))
   have hzr : Z + 1 ≤ wr.heap.size := by have := hbr.size; have := HSZ.out; omega
   have x0 := bx_cell ((hbr.block Z (by omega)).trans HB1.out)
   have HIFK := Lib.hid (HIF.out k hka hke)
   clear hF hbr hown
   by_cases hkl : k < ns.length
   ·have hkI : (k : Int) < (ns.length : Int) := by omega
    have hk0 : (0 : Int) ≤ (k : Int) := by omega
    obtain ⟨bq, oq, hA, q1⟩ := HRD.out wr HBW.out k hkl
    subst hA
    obtain ⟨dk, hdk⟩ : ∃ dk, dk = Tx.dp ns k := ⟨_, rfl⟩
    rw [← hdk] at q1
    have HDK := Lib.hid hdk
    by_cases hdd : (0 : Int) ≤ dk
    ·have d1 : decide ((0 : Int) ≤ dk) = true := decide_eq_true hdd
     have hlt : k < e := HIFK.out.2 ⟨hkl, by rw [← hdk]; exact hdd⟩
     clear hdd hdk
     by_cases heq : dk = (0 : Int)
     ·have d2 : (dk == (0 : Int)) = true := by simp [heq]
      have HN1 : Hid (Tx.placesV ns (0 : Int) 0 (k + 1) = F ++ [k]) := Lib.hid (by rw [Tx.placesV_succ ns (0 : Int) (a := 0) (k := k) hka, ← HF.out, if_pos (by rw [← HDK.out]; exact heq)])
      clear heq
      have hal : Below wr.heap.size wr (wr.alloc (.cells #[.int .i64 (k : Int)] 3)) := (Below.refl _ _).alloc (Nat.le_refl _) _
      have HO6 := Lib.hid (own_below HO.out hal)
      have HAL := Lib.hid hal
      have HRX : Hid (RdS (wr.alloc (.cells #[.int .i64 (k : Int)] 3)) (wr.alloc (.cells #[.int .i64 (k : Int)] 3)).heap.size 1 encInt (.slice (some ⟨wr.heap.size, 0, none⟩) 1 1) [(k : Int)]) := Lib.hid (rds_block (xs := [(k : Int)]) len_int (heap_alloc_new _ _) rfl (by simp) (Nat.le_refl 1) (by decide))
      have hm1 : F.length + [(k : Int)].length ≤ maxLen := by simp [maxLen]; omega
      have hm2 : (F.length + [(k : Int)].length) * 8 ≤ 140737488355328 := by simp; omega
      have hm3 : Z ≤ (wr.alloc (.cells #[.int .i64 (k : Int)] 3)).heap.size := by simp; omega
      have HM1 := Lib.hid hm1
      have HM2 := Lib.hid hm2
      have HM3 := Lib.hid hm3
      clear hal hm1 hm2 hm3
      go_wp2_with (at_builtin; (refine wpList_append_rd (enc := encInt) rfl (.tmp 44) (.tmp 46) _ rfl Z 3 i1 _ 1 8 len_int one_int Tryz.underlying32 hi1 hz1 hs1 hb1 rfl (by decide) (.slice Ao F.length co) F.length ((F.map Int.ofNat).flatMap encInt) rfl HO6.out _ (.slice (some ⟨wr.heap.size, 0, none⟩) 1 1) [(k : Int)] rfl HRX.out HM1.out HM2.out HM3.out ?_))
      intro v8 w8 hown8 hg8 hat8
      have HB8 : Hid (Below (Z + 1) G w8) := Lib.hid ((HBR.out.trans (HAL.out.mono hzr)).grown hg8 (by simp; omega) fun q hq => by
       have h1 := (HO6.out.lt q hq).1
       have h2 : q ≠ Z := fun e => by
        have := HO6.out.1
        rcases HO6.out.2 with ⟨hv, -⟩ | ⟨g, cap, cur, hv, hg, hh, -⟩
        ·rw [hv] at hq; cases hq
        ·rw [hv] at hq
         have e3 : g = q := by simpa [Value.ownBlock] using hq
         rw [e3, e] at hh
         have hz := ((HBR.out.trans (HAL.out.mono hzr)).block Z (by omega)).trans HB1.out
         rw [hh] at hz
         injection hz with hz
         injection hz with _ hz
         exact absurd hz (by decide)
       omega)
      have HO8 : Hid (w8.ownsRow Z 3 1 v8 (F ++ [k]).length (((F ++ [k]).map Int.ofNat).flatMap encInt)) := Lib.hid (by rw [List.length_append, List.map_append, List.flatMap_append]; exact hown8)
      clear hown8 hg8 hat8
      go_wp2_with fail
      go_roundg (e - (k + 1))
      case measure => omega
      case rel => exact ⟨k + 1, by omega, by omega, rfl, by go_num, HB8.out, by rw [HN1.out]; exact HO8.out⟩
     ·have d2 : (dk == (0 : Int)) = false := by simp [heq]
      have HN1 : Hid (Tx.placesV ns (0 : Int) 0 (k + 1) = F) := Lib.hid (by rw [Tx.placesV_succ ns (0 : Int) (a := 0) (k := k) hka, ← HF.out, if_neg (by rw [← HDK.out]; exact heq), List.append_nil])
      clear heq
      go_wp2_with fail
      go_roundg (e - (k + 1))
      case measure => omega
      case rel => exact ⟨k + 1, by omega, by omega, rfl, by go_num, HBR.out, by rw [HN1.out]; exact HO.out⟩
    ·have d1 : decide ((0 : Int) ≤ dk) = false := decide_eq_false hdd
     have hge : ¬ k < e := fun q => hdd (by rw [hdk]; exact (HIFK.out.1 q).2)
     have hke2 : k = e := by omega
     have HFE : Hid (F = Tx.placesV ns (0 : Int) 0 e) := Lib.hid (by rw [HF.out, hke2])
     clear hdd hke2 hdk
     go_wp2_with fail
     go_ret
     rw [HFE.out]
     refine HRES.out Ao co wr HBW.out ?_
     rw [← HFE.out]
     exact HO.out
   ·have hkI : ¬ (k : Int) < (ns.length : Int) := by omega
    have hge : ¬ k < e := fun q => hkl (HIFK.out.1 q).1
    have hke2 : k = e := by omega
    have HFE : Hid (F = Tx.placesV ns (0 : Int) 0 e) := Lib.hid (by rw [HF.out, hke2])
    clear hke2
    go_wp2_with fail
    go_ret
    rw [HFE.out]
    refine HRES.out Ao co wr HBW.out ?_
    rw [← HFE.out]
    exact HO.out
 ·obtain ⟨b, off, rfl, hq⟩ := HRD.out G HBL.out i hi
  have hiI : (i : Int) < (ns.length : Int) := by omega
  have hi0 : (0 : Int) ≤ (i : Int) := by omega
  obtain ⟨di, hdi⟩ : ∃ di, di = Tx.dp ns i := ⟨_, rfl⟩
  rw [← hdi] at hq hlo hhi hd
  have HD := Lib.hid hd
  have HDI := Lib.hid hdi
  clear hdi
  go_enter Tryz.func51, Tryz.ntmps51
  go_upto_region 3 with fail
  rw [← HZ.out, ← hG]
  clear hG
  go_wp2_with fail
  rw [← hd]
  clear hq hd hlo hhi
  go_loopg [5, 7] (e - (i + 1)) (fun g u v wr => ∃ k : Nat, (i + 1) ≤ k ∧ k ≤ e ∧ g = e - k ∧ v = .int .i64 (k : Int) ∧ Below (Z + 1) G wr ∧ wr.ownsRow Z 3 1 u (Tx.placesV ns d (i + 1) k).length (((Tx.placesV ns d (i + 1) k).map Int.ofNat).flatMap encInt))
  case atStart => exact ⟨(i + 1), Nat.le_refl _, HAE.out, rfl, by simp, Below.refl _ _, by rw [Tx.placesV_none]; exact World.ownsRow_nil _ _ _ _⟩
  case round =>
   obtain ⟨k, hka, hke, rfl, rfl, hbr, hown⟩ := hrel
   obtain ⟨F, hF⟩ : ∃ F, F = Tx.placesV ns d (i + 1) k := ⟨_, rfl⟩
   rw [← hF] at hown
   obtain ⟨Ao, co, rfl⟩ := own_form hown
   have hFl : F.length ≤ 1000000 := by rw [hF]; have := Tx.placesV_len ns d (i + 1) k; omega
   have HF := Lib.hid hF
   have HBR := Lib.hid hbr
   have HO := Lib.hid hown
   have HBW := Lib.hid (HBL.out.trans (hbr.mono (by omega)))
   have hzr : Z + 1 ≤ wr.heap.size := by have := hbr.size; have := HSZ.out; omega
   have x0 := bx_cell ((hbr.block Z (by omega)).trans HB1.out)
   have HIFK := Lib.hid (HIF.out k hka hke)
   clear hF hbr hown
   by_cases hkl : k < ns.length
   ·have hkI : (k : Int) < (ns.length : Int) := by omega
    have hk0 : (0 : Int) ≤ (k : Int) := by omega
    obtain ⟨bq, oq, hA, q1⟩ := HRD.out wr HBW.out k hkl
    cases hA
    obtain ⟨dk, hdk⟩ : ∃ dk, dk = Tx.dp ns k := ⟨_, rfl⟩
    rw [← hdk] at q1
    have HDK := Lib.hid hdk
    by_cases hdd : d ≤ dk
    ·have d1 : decide (d ≤ dk) = true := decide_eq_true hdd
     have hlt : k < e := HIFK.out.2 ⟨hkl, by rw [← hdk]; exact hdd⟩
     clear hdd hdk
     by_cases heq : dk = d
     ·have d2 : (dk == d) = true := by simp [heq]
      have HN1 : Hid (Tx.placesV ns d (i + 1) (k + 1) = F ++ [k]) := Lib.hid (by rw [Tx.placesV_succ ns d (a := (i + 1)) (k := k) hka, ← HF.out, if_pos (by rw [← HDK.out]; exact heq)])
      clear heq
      have hal : Below wr.heap.size wr (wr.alloc (.cells #[.int .i64 (k : Int)] 3)) := (Below.refl _ _).alloc (Nat.le_refl _) _
      have HO6 := Lib.hid (own_below HO.out hal)
      have HAL := Lib.hid hal
      have HRX : Hid (RdS (wr.alloc (.cells #[.int .i64 (k : Int)] 3)) (wr.alloc (.cells #[.int .i64 (k : Int)] 3)).heap.size 1 encInt (.slice (some ⟨wr.heap.size, 0, none⟩) 1 1) [(k : Int)]) := Lib.hid (rds_block (xs := [(k : Int)]) len_int (heap_alloc_new _ _) rfl (by simp) (Nat.le_refl 1) (by decide))
      have hm1 : F.length + [(k : Int)].length ≤ maxLen := by simp [maxLen]; omega
      have hm2 : (F.length + [(k : Int)].length) * 8 ≤ 140737488355328 := by simp; omega
      have hm3 : Z ≤ (wr.alloc (.cells #[.int .i64 (k : Int)] 3)).heap.size := by simp; omega
      have HM1 := Lib.hid hm1
      have HM2 := Lib.hid hm2
      have HM3 := Lib.hid hm3
      clear hal hm1 hm2 hm3
      go_wp2_with (at_builtin; (refine wpList_append_rd (enc := encInt) rfl (.tmp 44) (.tmp 46) _ rfl Z 3 i1 _ 1 8 len_int one_int Tryz.underlying32 hi1 hz1 hs1 hb1 rfl (by decide) (.slice Ao F.length co) F.length ((F.map Int.ofNat).flatMap encInt) rfl HO6.out _ (.slice (some ⟨wr.heap.size, 0, none⟩) 1 1) [(k : Int)] rfl HRX.out HM1.out HM2.out HM3.out ?_))
      intro v8 w8 hown8 hg8 hat8
      have HB8 : Hid (Below (Z + 1) G w8) := Lib.hid ((HBR.out.trans (HAL.out.mono hzr)).grown hg8 (by simp; omega) fun q hq => by
       have h1 := (HO6.out.lt q hq).1
       have h2 : q ≠ Z := fun e => by
        have := HO6.out.1
        rcases HO6.out.2 with ⟨hv, -⟩ | ⟨g, cap, cur, hv, hg, hh, -⟩
        ·rw [hv] at hq; cases hq
        ·rw [hv] at hq
         have e3 : g = q := by simpa [Value.ownBlock] using hq
         rw [e3, e] at hh
         have hz := ((HBR.out.trans (HAL.out.mono hzr)).block Z (by omega)).trans HB1.out
         rw [hh] at hz
         injection hz with hz
         injection hz with _ hz
         exact absurd hz (by decide)
       omega)
      have HO8 : Hid (w8.ownsRow Z 3 1 v8 (F ++ [k]).length (((F ++ [k]).map Int.ofNat).flatMap encInt)) := Lib.hid (by rw [List.length_append, List.map_append, List.flatMap_append]; exact hown8)
      clear hown8 hg8 hat8
      go_wp2_with fail
      go_roundg (e - (k + 1))
      case measure => omega
      case rel => exact ⟨k + 1, by omega, by omega, rfl, by go_num, HB8.out, by rw [HN1.out]; exact HO8.out⟩
     ·have d2 : (dk == d) = false := by simp [heq]
      have HN1 : Hid (Tx.placesV ns d (i + 1) (k + 1) = F) := Lib.hid (by rw [Tx.placesV_succ ns d (a := (i + 1)) (k := k) hka, ← HF.out, if_neg (by rw [← HDK.out]; exact heq), List.append_nil])
      clear heq
      go_wp2_with fail
      go_roundg (e - (k + 1))
      case measure => omega
      case rel => exact ⟨k + 1, by omega, by omega, rfl, by go_num, HBR.out, by rw [HN1.out]; exact HO.out⟩
    ·have d1 : decide (d ≤ dk) = false := decide_eq_false hdd
     have hge : ¬ k < e := fun q => hdd (by rw [hdk]; exact (HIFK.out.1 q).2)
     have hke2 : k = e := by omega
     have HFE : Hid (F = Tx.placesV ns d (i + 1) e) := Lib.hid (by rw [HF.out, hke2])
     clear hdd hke2 hdk
     go_wp2_with fail
     go_ret
     rw [HFE.out]
     refine HRES.out Ao co wr HBW.out ?_
     rw [← HFE.out]
     exact HO.out
   ·have hkI : ¬ (k : Int) < (ns.length : Int) := by omega
    have hge : ¬ k < e := fun q => hkl (HIFK.out.1 q).1
    have hke2 : k = e := by omega
    have HFE : Hid (F = Tx.placesV ns d (i + 1) e) := Lib.hid (by rw [HF.out, hke2])
    clear hke2
    go_wp2_with fail
    go_ret
    rw [HFE.out]
    refine HRES.out Ao co wr HBW.out ?_
    rw [← HFE.out]
    exact HO.out
end Go.Proofs.YtenmkbpdkfhbjaaGreat
namespace Go.Proofs.YtenmkbpdkfhbjaaGreat
open Go Go.RowKit

set_option maxRecDepth 100000 in
theorem r3word_any (k : Int) (w : World) : Calls Tryz.prog 93 #[.int .i64 k] w (fun e w' => e = .returned (.string (Cd.bs (Cd.wordOf k))) ∧ w' = w) := by
 have key : ∀ (b2 b3 b4 b5 : Bool), (k == 2) = b2 → (k == 3) = b3 → (k == 4) = b4 → (k == 5) = b5 → Calls Tryz.prog 93 #[.int .i64 k] w (fun e w' => e = .returned (.string (Cd.bs (Cd.wordOf k))) ∧ w' = w) := by
  intro b2 b3 b4 b5 h2 h3 h4 h5
  have HW : Hid (Cd.wordOf k = if b2 then Cd.wordOf 2 else if b3 then Cd.wordOf 3 else if b4 then Cd.wordOf 4 else if b5 then Cd.wordOf 5 else Cd.wordOf 7) := Lib.hid (by
   unfold Cd.wordOf
   rw [← h2, ← h3, ← h4, ← h5]
   simp)
  cases b2
  ·cases b3
   ·cases b4
    ·cases b5
     ·go_enter Tryz.func93, Tryz.ntmps93
      go_wp2_with fail
      go_ret
      exact ⟨by rw [HW.out]; rfl, rfl⟩
     ·go_enter Tryz.func93, Tryz.ntmps93
      go_wp2_with fail
      go_ret
      exact ⟨by rw [HW.out]; rfl, rfl⟩
    ·go_enter Tryz.func93, Tryz.ntmps93
     go_wp2_with fail
     go_ret
     exact ⟨by rw [HW.out]; rfl, rfl⟩
   ·go_enter Tryz.func93, Tryz.ntmps93
    go_wp2_with fail
    go_ret
    exact ⟨by rw [HW.out]; rfl, rfl⟩
  ·go_enter Tryz.func93, Tryz.ntmps93
   go_wp2_with fail
   go_ret
   exact ⟨by rw [HW.out]; rfl, rfl⟩
 exact key _ _ _ _ rfl rfl rfl rfl
end Go.Proofs.YtenmkbpdkfhbjaaGreat
namespace Cd
theorem common_less : ∀ (a b : List UInt8) (n : Nat), n ≤ commonL a b → (n < commonL a b ↔ n < a.length ∧ n < b.length ∧ a[n]? = b[n]?)
 | [], b, n, h => by
  rw [show commonL [] b = 0 by cases b <;> rfl] at h ⊢
  simp
 | x :: a, [], n, h => by
  rw [show commonL (x :: a) [] = 0 from rfl] at h ⊢
  simp
 | x :: a, y :: b, n, h => by
  have e : commonL (x :: a) (y :: b) = if x = y then commonL a b + 1 else 0 := rfl
  rw [e] at h ⊢
  by_cases q : x = y
  ·rw [if_pos q] at h ⊢
   cases n with
   | zero => simp [q]
   | succ n =>
    have := common_less a b n (by omega)
    simp only [List.length_cons, List.getElem?_cons_succ, Nat.add_lt_add_iff_right]
    exact this
  ·rw [if_neg q] at h ⊢
   have : n = 0 := by omega
   subst this
   simp [q]
theorem common_bd : ∀ (a b : List UInt8), commonL a b ≤ a.length ∧ commonL a b ≤ b.length
 | [], b => by rw [show commonL [] b = 0 by cases b <;> rfl]; omega
 | x :: a, [] => by rw [show commonL (x :: a) [] = 0 from rfl]; omega
 | x :: a, y :: b => by
  have := common_bd a b
  have e : commonL (x :: a) (y :: b) = if x = y then commonL a b + 1 else 0 := rfl
  rw [e]
  simp only [List.length_cons]
  split <;> omega
def reachW (s : List UInt8) (k : Nat) : Nat := if kindAt s[k]? = 0 then 0 else commonL (s.drop k) (wordOf (kindAt s[k]?))
def foundW (s : List UInt8) (k : Nat) : Int := if kindAt s[k]? = 0 then 0 else if commonL (s.drop k) (wordOf (kindAt s[k]?)) = (wordOf (kindAt s[k]?)).length then kindAt s[k]? else 0
theorem kindAt_in (o : Option UInt8) : kindAt o = 0 ∨ kindAt o = 2 ∨ kindAt o = 3 ∨ kindAt o = 4 ∨ kindAt o = 5 ∨ kindAt o = 7 := by
 unfold kindAt
 split
 ·simp
 ·split
  ·simp
  ·split
   ·simp
   ·split
    ·simp
    ·split <;> simp
theorem kind_first (c : UInt8) : ((2 : Int) = kindAt (some c) ↔ c = 98) ∧ ((3 : Int) = kindAt (some c) ↔ c = 97) ∧ ((4 : Int) = kindAt (some c) ↔ c = 111) ∧ ((5 : Int) = kindAt (some c) ↔ c = 114) ∧ ((7 : Int) = kindAt (some c) ↔ c = 104) := by
 by_cases h1 : c = 98
 ·subst h1; decide
 ·by_cases h2 : c = 97
  ·subst h2; decide
  ·by_cases h3 : c = 111
   ·subst h3; decide
   ·by_cases h4 : c = 114
    ·subst h4; decide
    ·by_cases h5 : c = 104
     ·subst h5; decide
     ·simp [kindAt, h1, h2, h3, h4, h5]
theorem word_common (s : List UInt8) (k : Nat) {i : Int} (hi : i = 2 ∨ i = 3 ∨ i = 4 ∨ i = 5 ∨ i = 7) : commonL (s.drop k) (wordOf i) = if i = kindAt s[k]? then reachW s k else 0 := by
 have hd : (s.drop k)[0]? = s[k]? := by rw [List.getElem?_drop]; rfl
 unfold reachW
 rw [← hd]
 cases s.drop k with
 | nil =>
  rw [show commonL [] (wordOf i) = 0 by cases wordOf i <;> rfl]
  split
  ·split
   ·rfl
   ·simp [kindAt] at *
  ·rfl
 | cons c l =>
  rw [List.getElem?_cons_zero]
  have key : ∀ (b : UInt8) (m : List UInt8), wordOf i = b :: m → (i = kindAt (some c) ↔ c = b) → commonL (c :: l) (wordOf i) = if i = kindAt (some c) then (if kindAt (some c) = 0 then 0 else commonL (c :: l) (wordOf (kindAt (some c)))) else 0 := fun b m e h => by
   by_cases q : i = kindAt (some c)
   ·rw [if_pos q, ← q, if_neg (by omega)]
   ·rw [if_neg q, e]
    exact if_neg fun r => q (h.2 r)
  have h5 := kind_first c
  rcases hi with rfl | rfl | rfl | rfl | rfl
  ·exact key 98 _ rfl h5.1
  ·exact key 97 _ rfl h5.2.1
  ·exact key 111 _ rfl h5.2.2.1
  ·exact key 114 _ rfl h5.2.2.2.1
  ·exact key 104 _ rfl h5.2.2.2.2
theorem word_3 (s : List UInt8) (k : Nat) : wordG s k = if foundW s k = 0 then .bad (k + reachW s k) else .ok (foundW s k) (k + reachW s k) := by
 unfold wordG foundW reachW
 simp only
 split
 ·rfl
 ·split
  ·rename_i h
   rw [h]
  ·rfl
end Cd
namespace Go.Proofs.YtenmkbpdkfhbjaaGreat
open Go Go.RowKit

set_option maxRecDepth 100000 in
set_option maxHeartbeats 8000000 in
theorem common3_any (a b : ByteArray) (w : World) (ha : a.size ≤ 1000000) :
  Calls Tryz.prog 92 #[.string a, .string b] w (fun e w' => e = .returned (.int .i64 (Cd.commonL a.data.toList b.data.toList : Int)) ∧ ∃ m, w' = w.drewN m) := by
 obtain ⟨C, hC⟩ : ∃ C, C = Cd.commonL a.data.toList b.data.toList := ⟨_, rfl⟩
 have hbd := Cd.common_bd a.data.toList b.data.toList
 rw [← hC] at hbd ⊢
 have hca : C ≤ a.size := by have := hbd.1; simpa using this
 have hcb : C ≤ b.size := by have := hbd.2; simpa using this
 have HL := Lib.hid (fun (n : Nat) (h : n ≤ C) => by have := Cd.common_less a.data.toList b.data.toList n (by rw [← hC]; exact h); rw [← hC] at this; exact this)
 clear hC hbd
 go_enter Tryz.func92, Tryz.ntmps92
 go_wp2_with fail
 go_loopg [5] C (fun g v wr => ∃ n : Nat, n ≤ C ∧ g = C - n ∧ v = .int .i64 (n : Int) ∧ ∃ m, wr = w.drewN m)
 case atStart => exact ⟨0, Nat.zero_le _, rfl, rfl, 0, rfl⟩
 case round =>
  obtain ⟨n, hn, rfl, rfl, m, hm⟩ := hrel
  have HM := Lib.hid hm
  have hl := HL.out n hn
  clear hm
  have hn0 : (0 : Int) ≤ (n : Int) := by omega
  by_cases h1 : n < a.size
  ·have h1I : (n : Int) < (a.size : Int) := by omega
   by_cases h2 : n < b.size
   ·have h2I : (n : Int) < (b.size : Int) := by omega
    obtain ⟨z, hz⟩ : ∃ z, decide (a[n] = b[n]) = z := ⟨_, rfl⟩
    have hcmp : (((a[n].toNat : Nat) : Int) == ((b[n].toNat : Nat) : Int)) = z := by
     rw [← hz]
     by_cases q : a[n] = b[n]
     ·simp [q]
     ·rw [decide_eq_false q]
      simp only [beq_eq_false_iff_ne, ne_eq]
      intro e
      exact q (UInt8.toNat_inj.1 (by omega))
    have hlz : n < C ↔ z = true := by
     rw [hl, ← hz, decide_eq_true_eq]
     have e1 : a.data.toList[n]? = some a[n] := by rw [List.getElem?_eq_getElem (by simpa using h1)]; rfl
     have e2 : b.data.toList[n]? = some b[n] := by rw [List.getElem?_eq_getElem (by simpa using h2)]; rfl
     rw [e1, e2]
     simp [h1, h2]
    clear hl hz
    cases z
    ·have hnc : n = C := by
      have : ¬ n < C := fun q => by have := hlz.1 q; cases this
      omega
     have HNC := Lib.hid hnc
     clear hnc hlz
     go_wp2_with fail
     go_quiet (fail)
     go_wp2_with fail
     go_ret
     exact ⟨congrArg (fun q : Nat => Ending.returned (.int .i64 (q : Int))) HNC.out, by rw [HM.out, World.drewN_drewN]; exact ⟨_, rfl⟩⟩
    ·have hnc : n < C := hlz.2 rfl
     clear hlz
     go_wp2_with fail
     go_quiet (fail)
     go_wp2_with fail
     go_roundg (C - (n + 1))
     case measure => omega
     case rel => exact ⟨n + 1, by omega, rfl, by go_num, by rw [HM.out, World.drewN_drewN]; exact ⟨_, rfl⟩⟩
   ·have h2I : ¬ (n : Int) < (b.size : Int) := by omega
    have hnc : n = C := by omega
    have HNC := Lib.hid hnc
    clear hnc hl
    go_wp2_with fail
    go_quiet (fail)
    go_wp2_with fail
    go_ret
    exact ⟨congrArg (fun q : Nat => Ending.returned (.int .i64 (q : Int))) HNC.out, by rw [HM.out, World.drewN_drewN]; exact ⟨_, rfl⟩⟩
  ·have h1I : ¬ (n : Int) < (a.size : Int) := by omega
   have hnc : n = C := by omega
   have HNC := Lib.hid hnc
   clear hnc hl
   go_wp2_with fail
   go_quiet (fail)
   go_wp2_with fail
   go_ret
   exact ⟨congrArg (fun q : Nat => Ending.returned (.int .i64 (q : Int))) HNC.out, by rw [HM.out, World.drewN_drewN]; exact ⟨_, rfl⟩⟩
end Go.Proofs.YtenmkbpdkfhbjaaGreat
