/- The forms of a line: they fit, they are small. -/
import Derived.Test.YtpmfjndbckblfaaDoorMgSounds
import Derived.Test.YtpmfjndbckblfaaDoorMgWithF
import Derived.Test.YtpmfjndbckblfaaDoorMgSameForms
import Derived.Test.YtpmfjndbckblfaaDoorMgFitsPlain
namespace Go.Proofs.YtpmfjndbckblfaaDoor
open Go.RowKit

theorem Lx.withV_fits2 {x : Lx.Lexicon} {s : ByteArray} (h : Lx.checkV x = 0) : ∀ f ∈ Lx.withV x s, Lx.FitsC x f := by
  intro f hf
  unfold Lx.withV Lx.withL at hf
  rw [List.mem_map] at hf
  obtain ⟨m, hm, rfl⟩ := hf
  exact (Lx.matchesV_fits h m (List.mem_filter.1 hm).1).form
theorem Lx.leanF_end2 {x : Lx.Lexicon} {s : ByteArray} : ∀ (fuel : Nat) (m : Lx.Match) (first : Nat), ∀ m' ∈ Lx.leanF x s fuel m first, m'.ending = m.ending
  | 0, m, first, m', h => by simp [Lx.leanF] at h; subst h; rfl
  | fuel + 1, m, first, m', h => by
    unfold Lx.leanF at h
    rw [List.mem_cons] at h
    rcases h with rfl | h
    · rfl
    · split at h
      · simp at h
      · rw [List.mem_flatMap] at h
        obtain ⟨c, _, h⟩ := h
        split at h
        · split at h
          · have := Lx.leanF_end2 fuel _ _ m' h
            exact this
          · simp at h
        · simp at h
theorem Lx.matchesV_end2 {x : Lx.Lexicon} {s : ByteArray} : ∀ m ∈ Lx.matchesV x s, -1 ≤ m.ending := by
  intro m hm
  unfold Lx.matchesV Lx.matchesN at hm
  rw [List.mem_flatMap] at hm
  obtain ⟨i, hi, hm⟩ := hm
  unfold Lx.matchesE at hm
  split at hm
  · split at hm
    · unfold Lx.matchesTo at hm
      rw [List.mem_flatMap] at hm
      obtain ⟨q, hq, hm⟩ := hm
      unfold Lx.matchesQ at hm
      split at hm
      · simp at hm
      · split at hm
        · rw [Lx.leanF_end2 _ _ _ m hm]; simp only; omega
        · simp at hm
    · simp at hm
  · simp at hm
theorem Lx.withV_small2 {x : Lx.Lexicon} {s : ByteArray} (h : Lx.checkV x = 0) : ∀ f ∈ Lx.withV x s, FSmall f := by
  intro f hf
  have hc := Lx.withV_fits2 h f hf
  obtain ⟨t0, t1, t2⟩ := Lx.tooMany_no (Lx.check_parts h).1
  refine FitsC.small hc (by omega) (by omega) (by omega) ?_
  unfold Lx.withV Lx.withL at hf
  rw [List.mem_map] at hf
  obtain ⟨m, hm, rfl⟩ := hf
  exact Lx.matchesV_end2 m (List.mem_filter.1 hm).1
end Go.Proofs.YtpmfjndbckblfaaDoor
