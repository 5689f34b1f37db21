/- ostraconref02.parent. -/
import Derived.Test.YtenmkbpdkfhbjaaGreatQaSgCollide
namespace Tx
theorem parV_eq {ns : List Node} {i p : Nat} (h1 : p < i) (h2 : dp ns p < dp ns i) (h3 : ∀ k, p < k → k < i → dp ns i ≤ dp ns k) : parV ns i = some p := by
  cases h : parV ns i with
  | none =>
    unfold parV at h
    have := List.find?_eq_none.1 h p (by simpa using h1)
    simp at this
    omega
  | some q =>
    obtain ⟨q1, q2, q3⟩ := par_some h
    rcases Nat.lt_trichotomy p q with r | r | r
    · have := h3 q r q1
      omega
    · rw [r]
    · have := q3 p r h1
      omega
theorem parV_none {ns : List Node} {i : Nat} (h3 : ∀ k, k < i → dp ns i ≤ dp ns k) : parV ns i = none := by
  cases h : parV ns i with
  | none => rfl
  | some q =>
    obtain ⟨q1, q2, -⟩ := par_some h
    have := h3 q q1
    omega
/-- the parent as the document's function gives it -/
def parI (ns : List Node) (i : Nat) : Int := match parV ns i with
  | some p => (p : Int)
  | none => -1
theorem parI_some {ns : List Node} {i p : Nat} (h : parV ns i = some p) : parI ns i = (p : Int) := by unfold parI; rw [h]
theorem parI_none {ns : List Node} {i : Nat} (h : parV ns i = none) : parI ns i = -1 := by unfold parI; rw [h]
end Tx
namespace Go.Proofs.YtenmkbpdkfhbjaaGreat
open Go Go.RowKit

set_option maxRecDepth 100000 in
set_option maxHeartbeats 16000000 in
theorem r2par_any (ns : List Tx.Node) (i : Nat) (w : World) (A : Option Addr) (c : Nat) (h : RdN w w.heap.size (.slice A ns.length c) ns) (hn : ns.length ≤ 1000000) (hi : i < ns.length) :
    Calls Tryz.prog 48 #[.agg #[.slice A ns.length c], .int .i64 i] w (RetE (Tx.parI ns i) w) := by
  have HR := Lib.hid h
  obtain ⟨b, off, rfl, hb, hcell⟩ := h.eight (by omega)
  have hcap : ns.length ≤ c ∧ c ≤ 9223372036854775807 := by
    obtain ⟨A', c', hv, h1, h2, -⟩ := h
    cases hv
    exact ⟨h1, h2⟩
  obtain ⟨Z, hZ⟩ : ∃ Z, Z = w.heap.size := ⟨_, rfl⟩
  have HZ := Lib.hid hZ
  obtain ⟨G, hG⟩ : ∃ G, G = w.alloc (.cells #[.slice (some ⟨b, off, none⟩) ns.length c] 27) := ⟨_, rfl⟩
  have hbl : Below Z w G := by rw [hG, hZ]; exact (Below.refl _ _).alloc (Nat.le_refl _) _
  have b1 : G.heap[Z]? = some (.cells #[.slice (some ⟨b, off, none⟩) ns.length c] 27 (0, 0)) := by rw [hG, hZ]; exact heap_alloc_new _ _
  have x0 := bx_cell b1
  have HBL := Lib.hid hbl
  have HRD : Hid (∀ k, k < ns.length → G.cell? ⟨b, off + k * 8 + 1, none⟩ = some (.int .i64 (Tx.dp ns k))) := Lib.hid fun k hk => (World.cell?_of_block (by rw [hZ] at hbl; exact hbl.block b hb)).trans (hcell k hk).2.1
  have HRES : Hid (∀ (v : Int) (W' : World), Tx.parI ns i = v → Below Z G W' → RetE (Tx.parI ns i) w (.returned (.int .i64 v)) W') := Lib.hid fun v W' q1 q2 => ⟨by rw [q1], by rw [← hZ]; exact hbl.trans q2⟩
  have hiI : (i : Int) < (ns.length : Int) := by omega
  have hi0 : (0 : Int) ≤ (i : Int) := by omega
  have hnI : (ns.length : Int) ≤ 1000000 := by omega
  have q0 := HRD.out i hi
  obtain ⟨di, hdi⟩ : ∃ di, di = Tx.dp ns i := ⟨_, rfl⟩
  rw [← hdi] at q0
  have HDI := Lib.hid hdi
  clear h hcell hbl b1 hZ hdi
  go_enter Tryz.func48, Tryz.ntmps48
  go_wp2_with fail
  rw [← HZ.out, ← hG]
  clear hG
  go_loopg [5] i (fun g v wr => ∃ m : Nat, m ≤ i ∧ g = m ∧ v = .int .i64 ((m : Int) - 1) ∧ (∃ n, wr = G.drewN n) ∧ ∀ j, m ≤ j → j < i → di ≤ Tx.dp ns j)
  case atStart => exact ⟨i, Nat.le_refl _, rfl, by simp, ⟨0, rfl⟩, fun j q1 q2 => by omega⟩
  case round =>
    obtain ⟨m, hm, hgm, rfl, ⟨n, rfl⟩, hall⟩ := hrel
    have HGM := Lib.hid hgm
    have HALL := Lib.hid hall
    clear hall hgm
    cases m with
    | zero =>
      have HV : Hid (Tx.parI ns i = -1) := Lib.hid (Tx.parI_none (Tx.parV_none fun k hk => by rw [← HDI.out]; exact HALL.out k (Nat.zero_le _) hk))
      go_wp2_with fail
      go_ret
      exact HRES.out _ _ HV.out (drew_below n)
    | succ m =>
      have hml : m < ns.length := by omega
      have q1 := HRD.out m hml
      obtain ⟨dm, hdm⟩ : ∃ dm, dm = Tx.dp ns m := ⟨_, rfl⟩
      rw [← hdm] at q1
      have HDM := Lib.hid hdm
      have hmI : (m : Int) < (ns.length : Int) := by omega
      have hm0 : (0 : Int) ≤ (m : Int) := by omega
      have he : ((m + 1 : Nat) : Int) - 1 = (m : Int) := by omega
      rw [he]
      clear he hdm
      by_cases hd : dm < di
      · have d1 : decide (dm < di) = true := decide_eq_true hd
        have HV : Hid (Tx.parI ns i = (m : Int)) := Lib.hid (Tx.parI_some (Tx.parV_eq (by omega) (by rw [← HDM.out, ← HDI.out]; exact hd) fun k q2 q3 => by rw [← HDI.out]; exact HALL.out k (by omega) q3))
        clear hd
        go_upto_region 4 with fail
        go_quiet (fail)
        go_wp2_with fail
        go_ret
        exact HRES.out _ _ HV.out ((drew_below n).trans (drew_below _))
      · have d1 : decide (dm < di) = false := decide_eq_false hd
        have HALL2 : Hid (∀ j, m ≤ j → j < i → di ≤ Tx.dp ns j) := Lib.hid fun j q2 q3 => by
          rcases Nat.lt_or_ge m j with r | r
          · exact HALL.out j (by omega) q3
          · have : j = m := by omega
            subst this
            rw [← HDM.out]
            omega
        clear hd
        go_upto_region 4 with fail
        go_quiet (fail)
        go_wp2_with fail
        go_roundg m
        case measure => have := HGM.out; omega
        case rel => exact ⟨m, by omega, rfl, by go_num, ⟨_, rfl⟩, HALL2.out⟩
end Go.Proofs.YtenmkbpdkfhbjaaGreat
