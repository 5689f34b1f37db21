/- How the reference reads a gloss: what its loops keep. Plain law. A text in pieces, and numbers in it: plain law. -/
import Derived.Test.YtkmimjngmfdpmaaGreatDoorMgGlossLaw
namespace Lx
open Go

theorem glossClit_size {x : Lexicon} (h : checkV x = 0) : ∀ (l : List Int) (t : ByteArray), (glossClit x l t).size ≤ t.size + 9 * l.length
  | [], t => by simp [glossClit]
  | c :: r, t => by
    have h1 : (⟨#[61]⟩ : ByteArray).size = 1 := rfl
    have hp := (check_parts h).2.2.2
    rw [glossClit]
    cases hg : x.clitics[c.toNat]? with
    | none =>
      simp only
      have := glossClit_size h r t
      rw [List.length_cons]
      omega
    | some g =>
      simp only
      have := glossClit_size h r (t ++ (⟨#[61]⟩ ++ g.name))
      have hn := (ok_clitic (good_at hp hg)).2.2.1
      rw [ByteArray.size_append, ByteArray.size_append, h1] at this
      rw [List.length_cons]
      omega
theorem glossV_size {x : Lexicon} {f : Form} (hf : formV x f = 0) : (glossV x f).size ≤ 80 := by
  obtain ⟨hv, e, he, _, _, hk1, hk9⟩ := form_parts hf
  have hp := check_parts hv.chk
  obtain ⟨_, hr8, hc8, _⟩ := ok_entry (good_at hp.2.1 he)
  have hcl8 : e.cls.size ≤ 8 := hc8.elim (fun q => by rw [size_isEmpty q]; omega) id
  have h0 := glossHead_size e (by rw [dec_dig ⟨hk1, hk9⟩]; simp) hr8 hcl8
  have h1 := glossEnd_size (f := f) hp.2.2.1 h0
  have h2 := glossClit_size hv.chk f.clitics (glossEnd x f (glossHead e))
  have := hv.few
  unfold glossV
  rw [he]
  simp only
  omega
theorem glossR_size {x : Lexicon} {f : Form} : (glossR x f).size ≤ 80 := by
  by_cases h : formV x f = 0
  · rw [glossR_ok h]; exact glossV_size h
  · rw [glossR_no h]; show 0 ≤ 80; omega
theorem bare_of {x : Lexicon} {f : Form} (hf : formV x f = 0) : formV x ⟨f.entry, f.ending, []⟩ = 0 := by
  obtain ⟨h0, h1, h2, _, _⟩ := form_pieces hf
  exact formV_0 h0 h1 h2 (by simp) rfl

/-- no form of entries ahead of i reads asq s; of entry i none with an ending ahead of k - 1 -/
def NotB (x : Lexicon) (s : ByteArray) (i : Nat) : Prop := ∀ g, formV x g = 0 → glossV x g = s → (i : Int) ≤ g.entry
def NotE (x : Lexicon) (s : ByteArray) (i k : Nat) : Prop := ∀ g, formV x g = 0 → glossV x g = s → (i : Int) ≤ g.entry ∧ (g.entry = (i : Int) → (k : Int) - 1 ≤ g.ending)
theorem notB_zero (x : Lexicon) (s : ByteArray) : NotB x s 0 := fun _ hg _ => (valid_of hg).ent.1
theorem notE_zero {x : Lexicon} {s : ByteArray} {i : Nat} (h : NotB x s i) : NotE x s i 0 := fun g hg hs => ⟨h g hg hs, fun _ => by have := (valid_of hg).fin; omega⟩
theorem notB_next {x : Lexicon} {s : ByteArray} {i k : Nat} (h : NotE x s i k) (hk : x.endings.length < k) : NotB x s (i + 1) := fun g hg hs => by
  obtain ⟨h1, h2⟩ := h g hg hs
  have := (valid_of hg).fin
  omega
theorem notB_end {x : Lexicon} {s : ByteArray} {i : Nat} (h : NotB x s i) (hi : x.entries.length ≤ i) : ∀ g, formV x g = 0 → glossV x g ≠ s := fun g hg hs => by
  have := h g hg hs
  have := (valid_of hg).ent
  omega
theorem way_pre {x : Lexicon} {g : Form} (hg : formV x g = 0) : (glossV x ⟨g.entry, g.ending, []⟩).data.toList.isPrefixOf (glossV x g).data.toList = true := by
  have h := gloss_way hg (bare_of hg) (onway_zero hg) (m := 0) (by simp)
  rw [h, List.isPrefixOf_iff_prefix]
  exact ⟨_, rfl⟩
theorem notE_skip {x : Lexicon} {s : ByteArray} {i k : Nat} (h : NotE x s i k) (hn : ¬ (formV x ⟨(i : Int), (k : Int) - 1, []⟩ = 0 ∧ (glossV x ⟨(i : Int), (k : Int) - 1, []⟩).data.toList.isPrefixOf s.data.toList = true)) : NotE x s i (k + 1) := fun g hg hs => by
  obtain ⟨h1, h2⟩ := h g hg hs
  refine ⟨h1, fun e => ?_⟩
  have h3 := h2 e
  have hne : g.ending ≠ (k : Int) - 1 := fun q => hn (by
    have hb := bare_of hg
    have hp := way_pre hg
    rw [e, q] at hb hp
    rw [hs] at hp
    exact ⟨hb, hp⟩)
  omega
/-- what the third loop keeps -/
structure OnF (x : Lexicon) (s : ByteArray) (i k c : Nat) (f : Form) : Prop where
  ent : f.entry = (i : Int)
  fin : f.ending = (k : Int) - 1
  val : formV x f = 0
  low : ∀ a ∈ f.clitics, a < (c : Int)
  way : ∀ g, formV x g = 0 → glossV x g = s → g.entry = (i : Int) → g.ending = (k : Int) - 1 → OnWay g f c
theorem onf_zero {x : Lexicon} {s : ByteArray} {i k : Nat} (h : formV x ⟨(i : Int), (k : Int) - 1, []⟩ = 0) : OnF x s i k 0 ⟨(i : Int), (k : Int) - 1, []⟩ :=
  ⟨rfl, rfl, h, by simp, fun g hg _ e1 e2 => by have := onway_zero hg; rw [e1, e2] at this; exact this⟩
theorem OnF.few {x : Lexicon} {s : ByteArray} {i k c : Nat} {f : Form} (h : OnF x s i k c f) : f.clitics.length ≤ 3 := (valid_of h.val).few
theorem onf_more {x : Lexicon} {s : ByteArray} {i k c : Nat} {f : Form} (h : OnF x s i k c f) (h3 : f.clitics.length < 3) (hc : c < x.clitics.length) : formV x (more f c) = 0 := more_valid h.val h.low h3 hc
theorem onf_step {x : Lexicon} {s : ByteArray} {i k c : Nat} {f : Form} (h : OnF x s i k c f) (h3 : f.clitics.length < 3) (hc : c < x.clitics.length) : OnF x s i k (c + 1) (stepG x s.data.toList f c) := by
  have hw : ∀ g, formV x g = 0 → glossV x g = s → g.entry = (i : Int) → g.ending = (k : Int) - 1 → OnWay g (stepG x s.data.toList f c) (c + 1) := fun g hg hs e1 e2 =>
    onway_step hg (by rw [hs]) h.val (h.way g hg hs e1 e2) h.low h3 hc
  unfold stepG at hw ⊢
  by_cases hh : hitB x s.data.toList f c = true
  · rw [if_pos hh] at hw ⊢
    refine ⟨h.ent, h.fin, onf_more h h3 hc, ?_, hw⟩
    intro a ha
    have ha : a ∈ f.clitics ++ [(c : Int)] := ha
    rw [List.mem_append, List.mem_singleton] at ha
    rcases ha with ha | ha
    · have := h.low a ha; omega
    · omega
  · rw [if_neg hh] at hw ⊢
    exact ⟨h.ent, h.fin, h.val, fun a ha => by have := h.low a ha; omega, hw⟩
theorem onf_hit {x : Lexicon} {s : ByteArray} {i k c : Nat} {f : Form} (h : OnF x s i k c f) (h3 : f.clitics.length < 3) (hc : c < x.clitics.length) (hh : hitB x s.data.toList f c = true) : OnF x s i k (c + 1) (more f c) := by
  have := onf_step h h3 hc
  unfold stepG at this
  rwa [if_pos hh] at this
theorem onf_miss {x : Lexicon} {s : ByteArray} {i k c : Nat} {f : Form} (h : OnF x s i k c f) (h3 : f.clitics.length < 3) (hc : c < x.clitics.length) (hh : hitB x s.data.toList f c = false) : OnF x s i k (c + 1) f := by
  have := onf_step h h3 hc
  unfold stepG at this
  rwa [if_neg (by rw [hh]; simp)] at this
theorem onf_end {x : Lexicon} {s : ByteArray} {i k c : Nat} {f : Form} (h : OnF x s i k c f) (he : x.clitics.length ≤ c ∨ 3 ≤ f.clitics.length) (hn : NotE x s i k) (hs : s ≠ glossV x f) : NotE x s i (k + 1) := fun g hg hgs => by
  obtain ⟨h1, h2⟩ := hn g hg hgs
  refine ⟨h1, fun e => ?_⟩
  have h3 := h2 e
  have hne : g.ending ≠ (k : Int) - 1 := fun q => by
    have := onway_end hg (h.way g hg hgs e q) he
    exact hs (by rw [this, hgs])
  omega
theorem read_bad {x : Lexicon} {s : ByteArray} (h : checkV x ≠ 0) : ReadG x s ⟨0, 0, []⟩ (checkV x) := .inl ⟨h, rfl, rfl⟩
theorem read_form {x : Lexicon} {s : ByteArray} {f : Form} (hf : formV x f = 0) (hs : s = glossV x f) : ReadG x s f 0 := .inr ⟨(valid_of hf).chk, .inl ⟨rfl, hf, hs.symm⟩⟩
theorem read_none {x : Lexicon} {s : ByteArray} (h : checkV x = 0) (hn : ∀ g, formV x g = 0 → glossV x g ≠ s) : ReadG x s ⟨0, 0, []⟩ 4 := .inr ⟨h, .inr ⟨rfl, rfl, hn⟩⟩
end Lx
namespace Lx
/-- the pieces that have ended, and the one under way -/
def pst (c : UInt8) (l : List UInt8) : List (List UInt8) × List UInt8 := l.foldl (fun s b => if b = c then (s.1 ++ [s.2], []) else (s.1, s.2 ++ [b])) ([], [])
theorem pst_nil (c : UInt8) : pst c [] = ([], []) := rfl
theorem pst_snoc (c : UInt8) (l : List UInt8) (b : UInt8) : pst c (l ++ [b]) = if b = c then ((pst c l).1 ++ [(pst c l).2], []) else ((pst c l).1, (pst c l).2 ++ [b]) := by
  unfold pst
  rw [List.foldl_append]
  rfl
theorem list_rev_ind {α : Type} {P : List α → Prop} (h0 : P []) (h1 : ∀ l a, P l → P (l ++ [a])) : ∀ l, P l := by
  intro l
  have key : ∀ n (l : List α), l.length = n → P l := by
    intro n
    induction n with
    | zero => intro l h; rw [List.eq_nil_of_length_eq_zero h]; exact h0
    | succ n ih =>
      intro l h
      have hne : l ≠ [] := fun e => by rw [e] at h; simp at h
      rw [← List.dropLast_concat_getLast hne]
      exact h1 _ _ (ih _ (by rw [List.length_dropLast]; omega))
  exact key _ l rfl
theorem pst_suffix (c : UInt8) (l : List UInt8) : ∃ x, l = x ++ (pst c l).2 := by
  refine list_rev_ind (P := fun l => ∃ x, l = x ++ (pst c l).2) ⟨[], rfl⟩ (fun l a h => ?_) l
  rw [pst_snoc]
  split
  · exact ⟨l ++ [a], by simp⟩
  · obtain ⟨x, hx⟩ := h
    refine ⟨x, ?_⟩
    show l ++ [a] = x ++ ((pst c l).2 ++ [a])
    rw [← List.append_assoc, ← hx]
theorem pst_join (c : UInt8) (l : List UInt8) : ∃ a ws, (pst c l).1 ++ [(pst c l).2] = a :: ws ∧ l = a ++ ws.flatMap (c :: ·) ∧ c ∉ a ∧ ∀ w ∈ ws, c ∉ w := by
  refine list_rev_ind (P := fun l => ∃ a ws, (pst c l).1 ++ [(pst c l).2] = a :: ws ∧ l = a ++ ws.flatMap (c :: ·) ∧ c ∉ a ∧ ∀ w ∈ ws, c ∉ w) ⟨[], [], rfl, rfl, by simp, by simp⟩ (fun l b h => ?_) l
  obtain ⟨a, ws, h1, h2, h3, h4⟩ := h
  rw [pst_snoc]
  by_cases hb : b = c
  · rw [if_pos hb]
    refine ⟨a, ws ++ [[]], by simp only; rw [h1]; rfl, ?_, h3, fun w hw => ?_⟩
    · rw [List.flatMap_append, ← List.append_assoc, ← h2, hb]
      simp
    · rw [List.mem_append, List.mem_singleton] at hw
      rcases hw with hw | rfl
      · exact h4 w hw
      · simp
  · rw [if_neg hb]
    simp only
    cases hd : (pst c l).1 with
    | nil =>
      rw [hd] at h1
      simp only [List.nil_append, List.cons.injEq] at h1
      obtain ⟨e1, e2⟩ := h1
      subst e2
      refine ⟨a ++ [b], [], by rw [e1]; rfl, by rw [h2]; simp, ?_, by simp⟩
      rw [List.mem_append, List.mem_singleton]
      exact fun q => q.elim h3 fun e => hb e.symm
    | cons p q =>
      rw [hd] at h1
      simp only [List.cons_append, List.cons.injEq] at h1
      obtain ⟨e1, e2⟩ := h1
      subst e1
      refine ⟨p, q ++ [(pst c l).2 ++ [b]], rfl, ?_, h3, fun w hw => ?_⟩
      · conv => lhs; rw [h2, ← e2]
        rw [List.flatMap_append, List.flatMap_append]
        simp
      · rw [List.mem_append, List.mem_singleton] at hw
        rcases hw with hw | rfl
        · exact h4 w (by rw [← e2]; simp [hw])
        · rw [List.mem_append, List.mem_singleton]
          exact fun q' => q'.elim (h4 _ (by rw [← e2]; simp)) fun e => hb e.symm
theorem pst_split (c : UInt8) (l : List UInt8) : Go.Lib.split l [c] = (pst c l).1 ++ [(pst c l).2] := by
  obtain ⟨a, ws, h1, h2, h3, h4⟩ := pst_join c l
  rw [h1]
  conv => lhs; rw [h2]
  exact split_byte ws a h3 h4
theorem pst_count (c : UInt8) (l : List UInt8) : (pst c l).1.length ≤ l.length := by
  refine list_rev_ind (P := fun l => (pst c l).1.length ≤ l.length) (Nat.le_refl _) (fun l a h => ?_) l
  rw [pst_snoc]
  split
  · simp; omega
  · simp; omega
/-- the value of digits -/
def digV (l : List UInt8) : Int := l.foldl (fun n b => 10 * n + ((b.toNat : Int) - 48)) 0
def digB (b : UInt8) : Bool := decide (48 ≤ b.toNat) && decide (b.toNat ≤ 57)
/-- whether a text is a number of one toq most digits -/
def numB (l : List UInt8) (most : Int) : Bool := decide (1 ≤ l.length) && decide ((l.length : Int) ≤ most) && !(decide (l[0]? = some 48) && decide (1 < l.length)) && l.all digB
def numV (l : List UInt8) (most : Int) : Int := if numB l most = true then digV l else 0
end Lx
