/- ostraconref05.Cuts: all answers; what holds of the cuts. -/
import Derived.Test.YtpmfjndbckblfaaDoorMgRCuts
namespace Go.Proofs.YtpmfjndbckblfaaDoor
open Go.RowKit

theorem Lx.formsR_fine {x : Lx.Lexicon} {s : ByteArray} (hchk : Lx.checkV x = 0) : ∀ i t f, f ∈ Lx.formsR x s i t → Lx.FitsC x f ∧ FSmall f := fun i t f hf => by
  have e : Lx.formsR x s i t = Lx.withV x (s.extract i t) := (Lx.with_rwith hchk).symm
  rw [e] at hf
  exact ⟨Lx.withV_fits2 hchk f hf, Lx.withV_small2 hchk f hf⟩
theorem Lx.cutsR_fine (x : Lx.Lexicon) (s : ByteArray) (most : Int) : (Lx.cutsR x s most).length ≤ 64 ∧ ∀ c ∈ Lx.cutsR x s most, ∀ f ∈ c.1, FSmall f := by
  unfold Lx.cutsR
  by_cases h : Lx.cutsN x s most = 0
  · rw [if_pos h]
    unfold Lx.cutsN at h
    by_cases hz : Lx.speechV x s = 0
    · rw [if_neg (by simp [hz])] at h
      have hw : Lx.withinB most 1 64 = true := by
        cases q : Lx.withinB most 1 64
        · rw [if_pos q] at h; cases h
        · rfl
      have hm : 1 ≤ most ∧ most ≤ 64 := by simpa [Lx.withinB] using hw
      have hchk := (Lx.speech_parts hz).1
      rw [Lx.cuts_law hchk]
      have hf := Lx.rtab_fine (x := x) (most := most.toNat) (forms := Lx.formsR x s) (n := s.size) (Q := FSmall) (by omega) (fun i t f hf => (Lx.formsR_fine hchk i t f hf).2) s.size 0
      exact ⟨by have := hf.len; omega, fun c hc => hf.mem c hc⟩
    · rw [if_pos hz] at h
      exact absurd h hz
  · rw [if_neg h]
    exact ⟨by simp, fun c hc => by cases hc⟩
theorem rCutsF_any (x : Lx.Lexicon) (s : ByteArray) (most : Int) (vx : Value) (w : World) (hr : RdL w w.heap.size vx x) (hs : s.size ≤ 1000) :
    Calls Tryd.prog 22 #[vx, .string s, .int .i64 most] w (RetVI w (fun w' v => RdG KCut w' (fun b => b < w'.heap.size) v (Lx.cutsR x s most)) (Lx.cutsN x s most)) := by
  by_cases hz : Lx.speechV x s = 0
  · cases hw : Lx.withinB most 1 64
    · have e1 : Lx.cutsN x s most = 1 := by unfold Lx.cutsN; rw [if_neg (by simp [hz]), if_pos hw]
      have e2 : Lx.cutsR x s most = [] := by unfold Lx.cutsR; rw [e1]; rfl
      rw [e1, e2]
      refine (rCuts_arg x s most (by simp only [maxLen]; omega) vx w hr hz hw).mono ?_
      rintro e w' ⟨v, rfl, h1, h2⟩
      exact ⟨v, rfl, by rw [h1]; exact RdG.nil _ _, h2⟩
    · have e1 : Lx.cutsN x s most = 0 := by unfold Lx.cutsN; rw [if_neg (by simp [hz]), if_neg (by simp [hw])]
      have e2 : Lx.cutsR x s most = Lx.cutsP x s most.toNat := by unfold Lx.cutsR; rw [if_pos e1]
      rw [e1, e2, Lx.cuts_law (Lx.speech_parts hz).1]
      have hm : 1 ≤ most ∧ most ≤ 64 := by simpa [Lx.withinB] using hw
      have h := rCuts_good x s most.toNat vx w hr hz (by omega) (by omega)
      rwa [show ((most.toNat : Nat) : Int) = most by omega] at h
  · have e1 : Lx.cutsN x s most = Lx.speechV x s := by unfold Lx.cutsN; rw [if_pos hz]
    have e2 : Lx.cutsR x s most = [] := by unfold Lx.cutsR; rw [e1, if_neg hz]
    rw [e1, e2]
    refine (rCuts_err x s most (by simp only [maxLen]; omega) vx w hr hz).mono ?_
    rintro e w' ⟨v, rfl, h1, h2⟩
    exact ⟨v, rfl, by rw [h1]; exact RdG.nil _ _, h2⟩
/-- the cells of one cut -/
theorem rdg_cut {w : World} {ok : Nat → Prop} {A : Option Addr} {n c : Nat} {l : List Lx.Cut} (h : RdG KCut w ok (.slice A n c) l) {i : Nat} {t : Lx.Cut} (hi : l[i]? = some t) :
    ∃ b off v, A = some ⟨b, off, none⟩ ∧ ok b ∧ w.cell? ⟨b, off + i * 2, none⟩ = some v ∧ w.cell? ⟨b, off + i * 2 + 1, none⟩ = some (.int .i64 t.2) ∧ RdG KForm w ok v t.1 := by
  obtain ⟨b, off, hA, hb, hcell⟩ := h.at (by have := (List.getElem?_eq_some_iff.1 hi).1; omega)
  obtain ⟨cs, ⟨v, rfl, hv⟩, hcs⟩ := hcell i t hi
  exact ⟨b, off, v, hA, hb, hcs 0 _ rfl, hcs 1 _ rfl, hv⟩
end Go.Proofs.YtpmfjndbckblfaaDoor
