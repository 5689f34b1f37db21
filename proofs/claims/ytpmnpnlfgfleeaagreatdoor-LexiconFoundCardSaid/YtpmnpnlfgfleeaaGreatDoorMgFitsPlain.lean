/- What with gives is what the reference gives: plain law. Matches are forms of the lexicon: plain notions. -/
import Derived.Test.YtpmnpnlfgfleeaaGreatDoorMgWithPlain
import Derived.Test.YtpmnpnlfgfleeaaGreatDoorMgCutsPlain
namespace Lx
def withK (l : List Match) (n : Nat) : List Form := (l.filter fun m => decide (m.long = n)).map Match.form
theorem withK_cons (m : Match) (l : List Match) (n : Nat) : withK (m :: l) n = (if m.long = n then [m.form] else []) ++ withK l n := by
  unfold withK
  by_cases h : m.long = n <;> simp [h]
theorem withK_none {l : List Match} {n : Nat} (h : ∀ m ∈ l, m.long ≠ n) : withK l n = [] := by
  unfold withK
  rw [List.map_eq_nil_iff, List.filter_eq_nil_iff]
  intro m hm
  simpa using h m hm
theorem withK_flatMap {α : Type} (f : α → List Match) (n : Nat) : ∀ l : List α, withK (l.flatMap f) n = l.flatMap fun a => withK (f a) n
  | [] => rfl
  | a :: r => by
    rw [List.flatMap_cons, List.flatMap_cons, ← withK_flatMap f n r]
    simp [withK]
theorem leanF_long {x : Lexicon} {s : ByteArray} : ∀ (fuel : Nat) (m : Match) (first : Nat), ∀ m' ∈ leanF x s fuel m first, m.long ≤ m'.long
  | 0, m, first, m', h => by simp [leanF] at h; subst h; exact Nat.le_refl _
  | fuel + 1, m, first, m', h => by
    unfold leanF at h
    rw [List.mem_cons] at h
    rcases h with rfl | h
    · exact Nat.le_refl _
    · split at h
      · simp at h
      · rw [List.mem_flatMap] at h
        obtain ⟨c, _, h⟩ := h
        split at h
        · split at h
          · have := leanF_long fuel _ _ m' h
            simp only at this
            omega
          · simp at h
        · simp at h
/-- the bytes of s from k up toq n -/
def part (s : ByteArray) (k n : Nat) : List UInt8 := (s.data.toList.drop k).take (n - k)
theorem part_len {s : ByteArray} {k n : Nat} (hn : n ≤ s.size) : (part s k n).length = n - k := by
  have e : s.data.toList.length = s.size := rfl
  unfold part
  rw [List.length_take, List.length_drop, e]
  omega
theorem part_drop {s : ByteArray} {k n d : Nat} : (part s k n).drop d = part s (k + d) n := by
  unfold part
  rw [List.drop_take, List.drop_drop, show n - k - d = n - (k + d) by omega]
theorem pre_part {s : ByteArray} {k n : Nat} {p : ByteArray} (hn : n ≤ s.size) (hk : k ≤ n) : p.data.toList.isPrefixOf (part s k n) = (pre s k p && decide (k + p.size ≤ n)) := by
  have ep : p.data.toList.length = p.size := rfl
  rw [Bool.eq_iff_iff]
  simp only [pre, Bool.and_eq_true, decide_eq_true_eq, List.isPrefixOf_iff_prefix]
  constructor
  · intro h
    have hl := h.length_le
    rw [part_len hn, ep] at hl
    exact ⟨h.trans (List.take_prefix _ _), by omega⟩
  · rintro ⟨h, hl⟩
    unfold part
    rw [List.prefix_take_iff]
    exact ⟨h, by omega⟩
theorem lean_tails {x : Lexicon} {s : ByteArray} (hg : good Clitic.ok Clitic.same x.clitics = true) {n : Nat} (hn : n ≤ s.size) : ∀ (fuel : Nat) (m : Match) (first : Nat), m.clitics.length + fuel = 3 → m.long ≤ n →
    withK (leanF x s fuel m first) n = (tailsV x fuel m.clitics first (part s m.long n)).map fun c => ⟨m.entry, m.ending, c⟩
  | 0, m, first, _, hl => by
    rw [leanF, withK_cons]
    by_cases h : m.long = n
    · have h0 : part s m.long n = [] := List.eq_nil_of_length_eq_zero (by rw [part_len hn]; omega)
      rw [h0, tailsV_nil, if_pos h]
      simp [withK, Match.form]
    · have h0 : part s m.long n ≠ [] := fun e => by have := part_len (s := s) (k := m.long) hn; rw [e] at this; simp at this; omega
      rw [tailsV_zero h0, if_neg h]
      rfl
  | fuel + 1, m, first, hf, hl => by
    rw [leanF_succ (by omega), withK_cons]
    by_cases h : m.long = n
    · have h0 : part s m.long n = [] := List.eq_nil_of_length_eq_zero (by rw [part_len hn]; omega)
      rw [h0, tailsV_nil, if_pos h, withK_none]
      · simp [Match.form]
      · intro m' hm'
        rw [List.mem_flatMap] at hm'
        obtain ⟨c, _, hm'⟩ := hm'
        unfold leanC at hm'
        split at hm'
        · rename_i g hgc
          split at hm'
          · have h1 := leanF_long _ _ _ m' hm'
            have h2 := (ok_clitic (good_at hg hgc)).1
            simp only at h1
            omega
          · simp at hm'
        · simp at hm'
    · have h0 : part s m.long n ≠ [] := fun e => by have := part_len (s := s) (k := m.long) hn; rw [e] at this; simp at this; omega
      rw [tailsV_succ h0, if_neg h, List.nil_append, withK_flatMap, tailsTo, List.map_flatMap]
      congr 1
      funext c
      unfold leanC tailC
      cases hc : x.clitics[c]? with
      | none => rfl
      | some g =>
        simp only
        rw [pre_part hn hl]
        have h2 := (ok_clitic (good_at hg hc)).1
        cases hp : pre s m.long g.text
        · simp [withK]
        · by_cases hle : m.long + g.text.size ≤ n
          · simp only [if_true, hle, decide_true, Bool.and_self]
            rw [lean_tails hg hn fuel ⟨m.entry, m.ending, m.clitics ++ [(c : Int)], m.long + g.text.size⟩ (c + 1) (by simp; omega) hle, part_drop]
          · simp only [if_true, hle, decide_false, Bool.and_false, Bool.false_eq_true, if_false]
            rw [withK_none]
            · rfl
            · intro m' hm'
              have := leanF_long _ _ _ m' hm'
              simp only at this
              omega
/-- the reference's forms whose sounds are t -/
def rwithQ (x : Lexicon) (t : List UInt8) (i : Nat) (e : Entry) (q : Nat) : List Form :=
  if skipB x e q = true then []
  else if (stemV x ⟨(i : Int), (q : Int) - 1, []⟩).data.toList.isPrefixOf t then (tailsV x 3 [] 0 (t.drop (stemV x ⟨(i : Int), (q : Int) - 1, []⟩).size)).map fun c => ⟨(i : Int), (q : Int) - 1, c⟩ else []
def rwithE (x : Lexicon) (t : List UInt8) (i : Nat) : List Form := match x.entries[i]? with
  | some e => (List.range (x.endings.length + 1)).flatMap (rwithQ x t i e)
  | none => []
def rwithV (x : Lexicon) (t : List UInt8) : List Form := (List.range x.entries.length).flatMap (rwithE x t)
theorem withQ_law {x : Lexicon} {s : ByteArray} (hg : good Clitic.ok Clitic.same x.clitics = true) {n : Nat} (hn : n ≤ s.size) (i : Nat) (e : Entry) (q : Nat) :
    withK (matchesQ x s i e q) n = rwithQ x (part s 0 n) i e q := by
  unfold matchesQ rwithQ
  by_cases hsk : skipB x e q = true
  · rw [if_pos hsk, if_pos hsk]; rfl
  · rw [if_neg hsk, if_neg hsk]
    generalize stemV x ⟨(i : Int), (q : Int) - 1, []⟩ = st
    rw [pre_part hn (Nat.zero_le _), Nat.zero_add]
    cases hp : pre s 0 st
    · simp [withK]
    · by_cases hle : st.size ≤ n
      · simp only [if_true, hle, decide_true, Bool.and_self]
        rw [lean_tails hg hn 3 ⟨(i : Int), (q : Int) - 1, [], st.size⟩ 0 rfl hle, part_drop, Nat.zero_add]
      · simp only [if_true, hle, decide_false, Bool.and_false, Bool.false_eq_true, if_false]
        refine withK_none fun m' hm' => ?_
        have := leanF_long _ _ _ m' hm'
        simp only at this
        omega
theorem stem_root {x : Lexicon} {f : Form} {e : Entry} (he : x.entries[f.entry.toNat]? = some e) : ∃ r, (stemV x f).data.toList = e.root.data.toList ++ r := by
  unfold stemV
  simp only [he]
  split
  · exact ⟨[], by simp⟩
  · split
    · rename_i g _
      exact ⟨g.text.data.toList, by simp⟩
    · exact ⟨[], by simp⟩
theorem with_law {x : Lexicon} {s : ByteArray} (hc : checkV x = 0) {n : Nat} (hn : n ≤ s.size) : withK (matchesV x s) n = rwithV x (part s 0 n) := by
  have hg := (check_parts hc).2.2.2
  unfold matchesV matchesN rwithV
  rw [withK_flatMap]
  congr 1
  funext i
  unfold matchesE rwithE
  cases he : x.entries[i]? with
  | none => rfl
  | some e =>
    simp only
    cases hp : pre s 0 e.root
    · simp only [Bool.false_eq_true, if_false]
      refine Eq.symm (List.flatMap_eq_nil_iff.2 fun q _ => ?_)
      unfold rwithQ
      split
      · rfl
      · rw [if_neg]
        intro h
        obtain ⟨r, hr⟩ := stem_root (x := x) (f := ⟨(i : Int), (q : Int) - 1, []⟩) (e := e) (by simpa using he)
        have h1 := List.isPrefixOf_iff_prefix.1 h
        rw [hr] at h1
        have h2 : e.root.data.toList <+: part s 0 n := (List.prefix_append _ _).trans h1
        have h3 := List.isPrefixOf_iff_prefix.2 h2
        rw [pre_part hn (Nat.zero_le _), hp] at h3
        cases h3
    · simp only [if_true]
      unfold matchesTo
      rw [withK_flatMap]
      congr 1
      funext q
      exact withQ_law hg hn i e q
end Lx
namespace Lx
structure MFit (x : Lexicon) (n : Nat) (m : Match) : Prop where
  form : FitsC x m.form
  pos : 1 ≤ m.long
  le : m.long ≤ n
theorem leanF_fits {x : Lexicon} {s : ByteArray} : ∀ (fuel : Nat) (m : Match) (first : Nat), m.clitics.length + fuel ≤ 3 → MFit x s.size m → ∀ m' ∈ leanF x s fuel m first, MFit x s.size m'
  | 0, m, first, _, h, m', hm => by simp [leanF] at hm; subst hm; exact h
  | fuel + 1, m, first, hf, h, m', hm => by
    unfold leanF at hm
    rw [List.mem_cons] at hm
    rcases hm with rfl | hm
    · exact h
    · rw [if_neg (by omega), List.mem_flatMap] at hm
      obtain ⟨c, hc, hm⟩ := hm
      split at hm
      · rename_i g hg
        split at hm
        · rename_i hp
          have hps := pre_size hp h.le
          refine leanF_fits fuel ⟨m.entry, m.ending, m.clitics ++ [(c : Int)], m.long + g.text.size⟩ (c + 1) (by simp; omega) ⟨⟨⟨h.form.ent, h.form.fin⟩, by simp [Match.form]; omega, fun k d hd => ?_⟩, ?_, hps⟩ m' hm
          · simp only [Match.form] at hd
            by_cases hk : k < m.clitics.length
            · rw [List.getElem?_append_left hk] at hd
              exact h.form.cl k d hd
            · rw [List.getElem?_append_right (by omega)] at hd
              have hcl := (List.getElem?_eq_some_iff.1 hg).1
              by_cases hk0 : k - m.clitics.length = 0
              · rw [hk0] at hd; simp at hd; subst hd; omega
              · rw [List.getElem?_eq_none (by simp; omega)] at hd; cases hd
          · have := h.pos; show 1 ≤ m.long + g.text.size; omega
        · simp at hm
      · simp at hm
theorem matchesV_fits {x : Lexicon} {s : ByteArray} (hc : checkV x = 0) : ∀ m ∈ matchesV x s, MFit x s.size m := by
  obtain ⟨_, h1, h2, _⟩ := check_parts hc
  intro m hm
  unfold matchesV matchesN at hm
  rw [List.mem_flatMap] at hm
  obtain ⟨i, hi, hm⟩ := hm
  rw [List.mem_range] at hi
  unfold matchesE at hm
  split at hm
  · rename_i e he
    split at hm
    · unfold matchesTo at hm
      rw [List.mem_flatMap] at hm
      obtain ⟨q, hq, hm⟩ := hm
      rw [List.mem_range] at hq
      unfold matchesQ at hm
      split at hm
      · simp at hm
      · split at hm
        · rename_i hp
          have hps := pre_size hp (Nat.zero_le _)
          refine leanF_fits 3 ⟨(i : Int), (q : Int) - 1, [], (stemV x ⟨(i : Int), (q : Int) - 1, []⟩).size⟩ 0 (by simp) ⟨⟨⟨⟨by simp [Match.form], by simp only [Match.form]; omega⟩, by simp only [Match.form]; omega⟩, by simp [Match.form], by simp [Match.form]⟩, ?_, by simpa using hps⟩ m hm
          have he1 := (ok_entry (good_at h1 he)).1
          show 1 ≤ (stemV x ⟨(i : Int), (q : Int) - 1, []⟩).size
          unfold stemV
          simp only [Int.toNat_natCast, he]
          split
          · exact he1
          · split
            · rw [ByteArray.size_append]; omega
            · exact he1
        · simp at hm
    · simp at hm
  · simp at hm
end Lx
