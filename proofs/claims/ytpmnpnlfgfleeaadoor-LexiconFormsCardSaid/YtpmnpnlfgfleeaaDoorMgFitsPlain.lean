/- Matches are forms of the lexicon: plain notions. -/
import Derived.Test.YtpmnpnlfgfleeaaDoorMgCutsPlain
namespace Lx
structure MFit (x : Lexicon) (n : Nat) (m : Match) : Prop where
  form : FitsC x m.form
  pos : 1 ≤ m.long
  le : m.long ≤ n
theorem leanF_fits {x : Lexicon} {s : ByteArray} : ∀ (fuel : Nat) (m : Match) (first : Nat), m.clitics.length + fuel ≤ 3 → MFit x s.size m → ∀ m' ∈ leanF x s fuel m first, MFit x s.size m'
  | 0, m, first, _, h, m', hm => by simp [leanF] at hm; subst hm; exact h
  | fuel + 1, m, first, hf, h, m', hm => by
    unfold leanF at hm
    rw [List.mem_cons] at hm
    rcases hm with rfl | hm
    · exact h
    · rw [if_neg (by omega), List.mem_flatMap] at hm
      obtain ⟨c, hc, hm⟩ := hm
      split at hm
      · rename_i g hg
        split at hm
        · rename_i hp
          have hps := pre_size hp h.le
          refine leanF_fits fuel ⟨m.entry, m.ending, m.clitics ++ [(c : Int)], m.long + g.text.size⟩ (c + 1) (by simp; omega) ⟨⟨⟨h.form.ent, h.form.fin⟩, by simp [Match.form]; omega, fun k d hd => ?_⟩, ?_, hps⟩ m' hm
          · simp only [Match.form] at hd
            by_cases hk : k < m.clitics.length
            · rw [List.getElem?_append_left hk] at hd
              exact h.form.cl k d hd
            · rw [List.getElem?_append_right (by omega)] at hd
              have hcl := (List.getElem?_eq_some_iff.1 hg).1
              by_cases hk0 : k - m.clitics.length = 0
              · rw [hk0] at hd; simp at hd; subst hd; omega
              · rw [List.getElem?_eq_none (by simp; omega)] at hd; cases hd
          · have := h.pos; show 1 ≤ m.long + g.text.size; omega
        · simp at hm
      · simp at hm
theorem matchesV_fits {x : Lexicon} {s : ByteArray} (hc : checkV x = 0) : ∀ m ∈ matchesV x s, MFit x s.size m := by
  obtain ⟨_, h1, h2, _⟩ := check_parts hc
  intro m hm
  unfold matchesV matchesN at hm
  rw [List.mem_flatMap] at hm
  obtain ⟨i, hi, hm⟩ := hm
  rw [List.mem_range] at hi
  unfold matchesE at hm
  split at hm
  · rename_i e he
    split at hm
    · unfold matchesTo at hm
      rw [List.mem_flatMap] at hm
      obtain ⟨q, hq, hm⟩ := hm
      rw [List.mem_range] at hq
      unfold matchesQ at hm
      split at hm
      · simp at hm
      · split at hm
        · rename_i hp
          have hps := pre_size hp (Nat.zero_le _)
          refine leanF_fits 3 ⟨(i : Int), (q : Int) - 1, [], (stemV x ⟨(i : Int), (q : Int) - 1, []⟩).size⟩ 0 (by simp) ⟨⟨⟨⟨by simp [Match.form], by simp only [Match.form]; omega⟩, by simp only [Match.form]; omega⟩, by simp [Match.form], by simp [Match.form]⟩, ?_, by simpa using hps⟩ m hm
          have he1 := (ok_entry (good_at h1 he)).1
          show 1 ≤ (stemV x ⟨(i : Int), (q : Int) - 1, []⟩).size
          unfold stemV
          simp only [Int.toNat_natCast, he]
          split
          · exact he1
          · split
            · rw [ByteArray.size_append]; omega
            · exact he1
        · simp at hm
    · simp at hm
  · simp at hm
end Lx
