/- (*ranked).add puts one more into a list in order. -/
import Derived.Test.YtpmnpnlfgfleeaaGreatDoorMgSearch
import Derived.Test.YtpmnpnlfgfleeaaGreatDoorMgInsert2
import Derived.Test.YtpmnpnlfgfleeaaGreatDoorMgTails
namespace Go.Proofs.YtpmnpnlfgfleeaaGreatDoor
open Go.RowKit

theorem first_at {α : Type} (q : α → Bool) : ∀ l : List α, ∃ i, i ≤ l.length ∧ (∀ j y, j < i → l[j]? = some y → q y = false) ∧ (∀ y, l[i]? = some y → q y = true)
  | [] => ⟨0, Nat.le_refl _, fun j y h => absurd h (Nat.not_lt_zero j), fun y h => by simp at h⟩
  | a :: r => by
    cases ha : q a
    · obtain ⟨i, h1, h2, h3⟩ := first_at q r
      refine ⟨i + 1, by simpa using h1, fun j y hj hy => ?_, fun y hy => h3 y (by simpa using hy)⟩
      cases j with
      | zero => simp at hy; subst hy; exact ha
      | succ j => exact h2 j y (by omega) (by simpa using hy)
    · exact ⟨0, Nat.zero_le _, fun j y h => absurd h (Nat.not_lt_zero j), fun y hy => by simp at hy; subst hy; exact ha⟩
theorem RdTls.app {w : World} {S0 : Nat} {ps qs : List (Option Addr)} {l m : List Lx.Tail} (h : RdTls w S0 ps l) (k : RdTls w S0 qs m) : RdTls w S0 (ps ++ qs) (l ++ m) := by
  induction h with
  | nil => exact k
  | cons h _ ih => exact .cons h ih
theorem RdTls.take {w : World} {S0 : Nat} {ps : List (Option Addr)} {l : List Lx.Tail} (h : RdTls w S0 ps l) : ∀ k, RdTls w S0 (ps.take k) (l.take k) := by
  induction h with
  | nil => intro k; simp; exact .nil
  | cons h _ ih =>
    intro k
    cases k with
    | zero => exact .nil
    | succ k => exact .cons h (ih k)
theorem RdTls.drop {w : World} {S0 : Nat} {ps : List (Option Addr)} {l : List Lx.Tail} (h : RdTls w S0 ps l) : ∀ k, RdTls w S0 (ps.drop k) (l.drop k) := by
  induction h with
  | nil => intro k; simp; exact .nil
  | cons h r ih =>
    intro k
    cases k with
    | zero => exact .cons h r
    | succ k => exact ih k
theorem encP_map (ps : List (Option Addr)) : ps.flatMap encP = ps.map Value.pointer := by
  induction ps with
  | nil => rfl
  | cons p r ih => rw [List.flatMap_cons, ih]; rfl
def insP (ps : List (Option Addr)) (i : Nat) (p : Option Addr) : List (Option Addr) := ps.take i ++ p :: ps.drop i
theorem insP_map (ps : List (Option Addr)) (i : Nat) (p : Option Addr) : (insP ps i p).map Value.pointer = insAt (ps.map Value.pointer) i (.pointer p) := by
  unfold insP insAt
  rw [List.map_append, List.map_cons, List.map_take, List.map_drop]

set_option maxHeartbeats 2000000 in
theorem add_put {most : Nat} (hm : 1 ≤ most) (hm' : most ≤ 64) {x : Lx.Lexicon} (a0 a1 a2 a3 a4 : Value) (hone : ∀ u ∈ [a0, a1, a2, a3, a4], u.oneCell' = true) {l : List Lx.Tail} {t : Lx.Tail} (hasc : Lx.AscT l) (hal : ∀ y ∈ l, Lx.Alike x (y.map (·.2)) (t.map (·.2))) (hlen : l.length ≤ most)
    (hnt : t ≠ []) (hnl : ∀ y ∈ l, y ≠ []) (hft : ∀ f ∈ t.map (·.2), f.clitics.length ≤ 1000) (hfl : ∀ y ∈ l, ∀ f ∈ y.map (·.2), f.clitics.length ≤ 1000) : AddSays (Lx.putT most) most (.agg #[a0, a1, a2, a3, a4]) l t := by
  intro w S0 base R p v ps hR hRb hS hbase hown hps hp
  have hpl : ps.length = l.length := hps.len
  obtain ⟨i, hi, hlo, hhi⟩ := first_at (fun y => Lx.rb (Lx.cutOf t) (Lx.cutOf y)) l
  have hins : Lx.insT l t = l.take i ++ t :: l.drop i := Lx.insT_at hi hlo hhi
  have hRv : v.ownBlock ≠ some R := fun e => by have := (hown.lt _ e).1; omega
  have hRl : R < w.heap.size := by omega
  have hone1 : ∀ u ∈ ps.flatMap encP, u.oneCell' = true := fun u hu => by
    rw [encP_map] at hu
    obtain ⟨q, _, rfl⟩ := List.mem_map.1 hu
    rfl
  obtain ⟨w1, hw1⟩ : ∃ w1, w1 = w.alloc (.cells #[.pointer (some ⟨R, 0, none⟩)] 134) := ⟨_, rfl⟩
  have hb1 : Below w.heap.size w w1 := by rw [hw1]; exact (Below.refl _ _).alloc (Nat.le_refl _) _
  have hs1 : w1.heap.size = w.heap.size + 1 := by rw [hw1]; simp
  have hg1 : w1.heap[w.heap.size]? = some (.cells #[.pointer (some ⟨R, 0, none⟩)] 134 (0, 0)) := by rw [hw1]; exact heap_alloc_new _ _
  have hRK : Ranked w1 w.heap.size R most (.agg #[a0, a1, a2, a3, a4]) := ⟨by simp [World.cell?, hg1], ⟨v, (hb1.block R hRl).trans hR⟩, by omega⟩
  have hrd : RdS w1 w1.heap.size 1 encP v ps := ((rdx_of_own len_ptr hown).keep (w' := w1) (ok' := fun b => b < w1.heap.size) (fun b hb => ⟨by omega, hb1.block b hb.2⟩)).to (fun _ h => h)
  have hbs := bsearch_any i (.pointer (some ⟨w.heap.size, 0, none⟩)) l ps t p v w1 w1.heap.size (Nat.le_refl _) hrd hpl (by omega) hasc hlo hhi hi (fun W j y q hW hy hq => by
    have hym := List.mem_of_getElem? hy
    obtain ⟨q', hq', hry⟩ := hps.at hy
    rw [hq] at hq'
    cases hq'
    have hbW := hb1.trans (hW.mono hb1.size)
    refine (add1_any a0 a1 a2 a3 a4 S0 w.heap.size R most q p y t W hone (hRK.keep hW) (hry.keep (.of_below hbW (by omega))) (hp.keep (.of_below hbW (by omega))) (by have := hbW.size; omega) (hnl y hym) hnt (hfl y hym) hft).mono ?_
    rintro e W' ⟨rfl, hb⟩
    refine ⟨_, rfl, ?_, hb⟩
    rw [addC_neg, Lx.tC_rb (hal y hym)])
  rw [hw1] at hbs
  have hxl : (ps.flatMap encP).length = ps.length := by rw [encP_map, List.length_map]
  refine (add_any w base R i ps.length most p v _ (ps.flatMap encP) (insAt (ps.flatMap encP) i (.pointer p)) hR hown hRv hRb hm' (by omega) hbase (hbs.mono (by
    rintro e w' ⟨b, rfl, hb⟩
    exact ⟨b, rfl, by simpa using hb⟩)) (fun him => by
    rcases Nat.lt_or_ge i ps.length with h | h
    · exact insert_mid w base i ps.length p v _ hown hone1 h (by omega) hbase
    · have he : i = ps.length := by omega
      have h2 := insert_end w base ps.length p v _ hown (by omega) hbase
      have e2 : insAt (ps.flatMap encP) i (.pointer p) = ps.flatMap encP ++ [.pointer p] := by
        unfold insAt
        rw [List.take_of_length_le (by omega), List.drop_eq_nil_of_le (by omega)]
      rw [e2, he]
      exact h2)).mono ?_
  rintro e w' ⟨rfl, v', h1, h2, wq, h3, h4⟩
  have hk1 : Kept2 S0 w wq := .of_own h3 hown (by omega) (by omega) (by decide)
  have hRq : wq.heap[R]? = w.heap[R]? := h3.block R hRl (fun e => hRv e.symm)
  have hk2 : Kept2 S0 wq w' := .of_grown h4 (by have := h3.size; omega) hS (hRq.trans hR) (by decide)
  have hbe : Below R w w' := ((Below.refl R w).grown h3 (by omega) (fun k hk => by have := (hown.lt k hk).1; omega)).grown h4 (by have := h3.size; omega) (fun k hk => by cases hk; omega)
  have hko : KeptO w w' := by
    intro b cs t' fr hb hn1 hn2
    have hbl := (Array.getElem?_eq_some_iff.1 hb).1
    have e1 : wq.heap[b]? = w.heap[b]? := h3.block b hbl (fun e => by
      rcases hown.2 with ⟨q, _⟩ | ⟨g, cap, cur, q, _, hh, _⟩
      · rw [q] at e; simp [Value.ownBlock] at e
      · rw [q] at e; simp [Value.ownBlock] at e; subst e; rw [hb] at hh; cases hh; exact hn1 rfl)
    exact (h4.block b (by have := h3.size; omega) (fun e => by cases e; rw [hR] at hb; cases hb; exact hn2 rfl)).trans e1
  have hps' := hps.keep (hk1.trans hk2)
  have hp' := hp.keep (hk1.trans hk2)
  by_cases him : i < most
  · rw [if_pos him] at h2
    obtain ⟨A', c', rfl, h5⟩ := h2
    have hml : ((insP ps i p).take most).length = min (ps.length + 1) most := by
      unfold insP
      rw [List.length_take, List.length_append, List.length_cons, List.length_take, List.length_drop]
      omega
    refine ⟨rfl, _, (insP ps i p).take most, h1, ?_, ?_, hbe, hko⟩
    · rw [hml, encP_map, List.map_take, insP_map, ← encP_map]
      have e3 : (insAt (ps.flatMap encP) i (.pointer p)).take (min (ps.length + 1) most) = (insAt (ps.flatMap encP) i (.pointer p)).take most := by
        rcases Nat.le_total (ps.length + 1) most with h | h
        · rw [Nat.min_eq_left h, List.take_of_length_le (by rw [insAt_len (by omega)]; omega), List.take_of_length_le (by rw [insAt_len (by omega)]; omega)]
        · rw [Nat.min_eq_right h]
      rw [← e3]
      exact h5
    · unfold Lx.putT
      rw [hins]
      exact ((hps'.take i).app (.cons hp' (hps'.drop i))).take most
  · rw [if_neg him] at h2
    obtain ⟨rfl, hbw⟩ := h2
    have e4 : Lx.putT most l t = l := by
      unfold Lx.putT
      rw [hins, List.take_of_length_le (show l.length ≤ i by omega), List.take_append_of_le_length (by omega), List.take_of_length_le hlen]
    exact ⟨rfl, _, ps, h1, keep_own hown hbw, by rw [e4]; exact hps', hbe, hko⟩
end Go.Proofs.YtpmnpnlfgfleeaaGreatDoor
