/- How the reference reads a gloss: what its loops keep. Plain law. -/
import Derived.Test.YtpmnpnlfgfleeaaGreatDoorMgGlossLaw
namespace Lx
open Go

theorem glossClit_size {x : Lexicon} (h : checkV x = 0) : ∀ (l : List Int) (t : ByteArray), (glossClit x l t).size ≤ t.size + 9 * l.length
  | [], t => by simp [glossClit]
  | c :: r, t => by
    have h1 : (⟨#[61]⟩ : ByteArray).size = 1 := rfl
    have hp := (check_parts h).2.2.2
    rw [glossClit]
    cases hg : x.clitics[c.toNat]? with
    | none =>
      simp only
      have := glossClit_size h r t
      rw [List.length_cons]
      omega
    | some g =>
      simp only
      have := glossClit_size h r (t ++ (⟨#[61]⟩ ++ g.name))
      have hn := (ok_clitic (good_at hp hg)).2.2.1
      rw [ByteArray.size_append, ByteArray.size_append, h1] at this
      rw [List.length_cons]
      omega
theorem glossV_size {x : Lexicon} {f : Form} (hf : formV x f = 0) : (glossV x f).size ≤ 80 := by
  obtain ⟨hv, e, he, _, _, hk1, hk9⟩ := form_parts hf
  have hp := check_parts hv.chk
  obtain ⟨_, hr8, hc8, _⟩ := ok_entry (good_at hp.2.1 he)
  have hcl8 : e.cls.size ≤ 8 := hc8.elim (fun q => by rw [size_isEmpty q]; omega) id
  have h0 := glossHead_size e (by rw [dec_dig ⟨hk1, hk9⟩]; simp) hr8 hcl8
  have h1 := glossEnd_size (f := f) hp.2.2.1 h0
  have h2 := glossClit_size hv.chk f.clitics (glossEnd x f (glossHead e))
  have := hv.few
  unfold glossV
  rw [he]
  simp only
  omega
theorem glossR_size {x : Lexicon} {f : Form} : (glossR x f).size ≤ 80 := by
  by_cases h : formV x f = 0
  · rw [glossR_ok h]; exact glossV_size h
  · rw [glossR_no h]; show 0 ≤ 80; omega
theorem bare_of {x : Lexicon} {f : Form} (hf : formV x f = 0) : formV x ⟨f.entry, f.ending, []⟩ = 0 := by
  obtain ⟨h0, h1, h2, _, _⟩ := form_pieces hf
  exact formV_0 h0 h1 h2 (by simp) rfl

/-- no form of entries ahead of i reads asq s; of entry i none with an ending ahead of k - 1 -/
def NotB (x : Lexicon) (s : ByteArray) (i : Nat) : Prop := ∀ g, formV x g = 0 → glossV x g = s → (i : Int) ≤ g.entry
def NotE (x : Lexicon) (s : ByteArray) (i k : Nat) : Prop := ∀ g, formV x g = 0 → glossV x g = s → (i : Int) ≤ g.entry ∧ (g.entry = (i : Int) → (k : Int) - 1 ≤ g.ending)
theorem notB_zero (x : Lexicon) (s : ByteArray) : NotB x s 0 := fun _ hg _ => (valid_of hg).ent.1
theorem notE_zero {x : Lexicon} {s : ByteArray} {i : Nat} (h : NotB x s i) : NotE x s i 0 := fun g hg hs => ⟨h g hg hs, fun _ => by have := (valid_of hg).fin; omega⟩
theorem notB_next {x : Lexicon} {s : ByteArray} {i k : Nat} (h : NotE x s i k) (hk : x.endings.length < k) : NotB x s (i + 1) := fun g hg hs => by
  obtain ⟨h1, h2⟩ := h g hg hs
  have := (valid_of hg).fin
  omega
theorem notB_end {x : Lexicon} {s : ByteArray} {i : Nat} (h : NotB x s i) (hi : x.entries.length ≤ i) : ∀ g, formV x g = 0 → glossV x g ≠ s := fun g hg hs => by
  have := h g hg hs
  have := (valid_of hg).ent
  omega
theorem way_pre {x : Lexicon} {g : Form} (hg : formV x g = 0) : (glossV x ⟨g.entry, g.ending, []⟩).data.toList.isPrefixOf (glossV x g).data.toList = true := by
  have h := gloss_way hg (bare_of hg) (onway_zero hg) (m := 0) (by simp)
  rw [h, List.isPrefixOf_iff_prefix]
  exact ⟨_, rfl⟩
theorem notE_skip {x : Lexicon} {s : ByteArray} {i k : Nat} (h : NotE x s i k) (hn : ¬ (formV x ⟨(i : Int), (k : Int) - 1, []⟩ = 0 ∧ (glossV x ⟨(i : Int), (k : Int) - 1, []⟩).data.toList.isPrefixOf s.data.toList = true)) : NotE x s i (k + 1) := fun g hg hs => by
  obtain ⟨h1, h2⟩ := h g hg hs
  refine ⟨h1, fun e => ?_⟩
  have h3 := h2 e
  have hne : g.ending ≠ (k : Int) - 1 := fun q => hn (by
    have hb := bare_of hg
    have hp := way_pre hg
    rw [e, q] at hb hp
    rw [hs] at hp
    exact ⟨hb, hp⟩)
  omega
/-- what the third loop keeps -/
structure OnF (x : Lexicon) (s : ByteArray) (i k c : Nat) (f : Form) : Prop where
  ent : f.entry = (i : Int)
  fin : f.ending = (k : Int) - 1
  val : formV x f = 0
  low : ∀ a ∈ f.clitics, a < (c : Int)
  way : ∀ g, formV x g = 0 → glossV x g = s → g.entry = (i : Int) → g.ending = (k : Int) - 1 → OnWay g f c
theorem onf_zero {x : Lexicon} {s : ByteArray} {i k : Nat} (h : formV x ⟨(i : Int), (k : Int) - 1, []⟩ = 0) : OnF x s i k 0 ⟨(i : Int), (k : Int) - 1, []⟩ :=
  ⟨rfl, rfl, h, by simp, fun g hg _ e1 e2 => by have := onway_zero hg; rw [e1, e2] at this; exact this⟩
theorem OnF.few {x : Lexicon} {s : ByteArray} {i k c : Nat} {f : Form} (h : OnF x s i k c f) : f.clitics.length ≤ 3 := (valid_of h.val).few
theorem onf_more {x : Lexicon} {s : ByteArray} {i k c : Nat} {f : Form} (h : OnF x s i k c f) (h3 : f.clitics.length < 3) (hc : c < x.clitics.length) : formV x (more f c) = 0 := more_valid h.val h.low h3 hc
theorem onf_step {x : Lexicon} {s : ByteArray} {i k c : Nat} {f : Form} (h : OnF x s i k c f) (h3 : f.clitics.length < 3) (hc : c < x.clitics.length) : OnF x s i k (c + 1) (stepG x s.data.toList f c) := by
  have hw : ∀ g, formV x g = 0 → glossV x g = s → g.entry = (i : Int) → g.ending = (k : Int) - 1 → OnWay g (stepG x s.data.toList f c) (c + 1) := fun g hg hs e1 e2 =>
    onway_step hg (by rw [hs]) h.val (h.way g hg hs e1 e2) h.low h3 hc
  unfold stepG at hw ⊢
  by_cases hh : hitB x s.data.toList f c = true
  · rw [if_pos hh] at hw ⊢
    refine ⟨h.ent, h.fin, onf_more h h3 hc, ?_, hw⟩
    intro a ha
    have ha : a ∈ f.clitics ++ [(c : Int)] := ha
    rw [List.mem_append, List.mem_singleton] at ha
    rcases ha with ha | ha
    · have := h.low a ha; omega
    · omega
  · rw [if_neg hh] at hw ⊢
    exact ⟨h.ent, h.fin, h.val, fun a ha => by have := h.low a ha; omega, hw⟩
theorem onf_hit {x : Lexicon} {s : ByteArray} {i k c : Nat} {f : Form} (h : OnF x s i k c f) (h3 : f.clitics.length < 3) (hc : c < x.clitics.length) (hh : hitB x s.data.toList f c = true) : OnF x s i k (c + 1) (more f c) := by
  have := onf_step h h3 hc
  unfold stepG at this
  rwa [if_pos hh] at this
theorem onf_miss {x : Lexicon} {s : ByteArray} {i k c : Nat} {f : Form} (h : OnF x s i k c f) (h3 : f.clitics.length < 3) (hc : c < x.clitics.length) (hh : hitB x s.data.toList f c = false) : OnF x s i k (c + 1) f := by
  have := onf_step h h3 hc
  unfold stepG at this
  rwa [if_neg (by rw [hh]; simp)] at this
theorem onf_end {x : Lexicon} {s : ByteArray} {i k c : Nat} {f : Form} (h : OnF x s i k c f) (he : x.clitics.length ≤ c ∨ 3 ≤ f.clitics.length) (hn : NotE x s i k) (hs : s ≠ glossV x f) : NotE x s i (k + 1) := fun g hg hgs => by
  obtain ⟨h1, h2⟩ := hn g hg hgs
  refine ⟨h1, fun e => ?_⟩
  have h3 := h2 e
  have hne : g.ending ≠ (k : Int) - 1 := fun q => by
    have := onway_end hg (h.way g hg hgs e q) he
    exact hs (by rw [this, hgs])
  omega
theorem read_bad {x : Lexicon} {s : ByteArray} (h : checkV x ≠ 0) : ReadG x s ⟨0, 0, []⟩ (checkV x) := .inl ⟨h, rfl, rfl⟩
theorem read_form {x : Lexicon} {s : ByteArray} {f : Form} (hf : formV x f = 0) (hs : s = glossV x f) : ReadG x s f 0 := .inr ⟨(valid_of hf).chk, .inl ⟨rfl, hf, hs.symm⟩⟩
theorem read_none {x : Lexicon} {s : ByteArray} (h : checkV x = 0) (hn : ∀ g, formV x g = 0 → glossV x g ≠ s) : ReadG x s ⟨0, 0, []⟩ 4 := .inr ⟨h, .inr ⟨rfl, rfl, hn⟩⟩
end Lx
