/- A text in pieces, and numbers in it: plain law. Matches: plain notions. -/
import Derived.Test.YtpmnpnlfgfleeaaGreatDoorMgReadPlain
import Derived.Test.YtpmnpnlfgfleeaaGreatDoorMgGlossPlain
import Derived.Lib.Strings
namespace Lx
/-- the pieces that have ended, and the one under way -/
def pst (c : UInt8) (l : List UInt8) : List (List UInt8) × List UInt8 := l.foldl (fun s b => if b = c then (s.1 ++ [s.2], []) else (s.1, s.2 ++ [b])) ([], [])
theorem pst_nil (c : UInt8) : pst c [] = ([], []) := rfl
theorem pst_snoc (c : UInt8) (l : List UInt8) (b : UInt8) : pst c (l ++ [b]) = if b = c then ((pst c l).1 ++ [(pst c l).2], []) else ((pst c l).1, (pst c l).2 ++ [b]) := by
  unfold pst
  rw [List.foldl_append]
  rfl
theorem list_rev_ind {α : Type} {P : List α → Prop} (h0 : P []) (h1 : ∀ l a, P l → P (l ++ [a])) : ∀ l, P l := by
  intro l
  have key : ∀ n (l : List α), l.length = n → P l := by
    intro n
    induction n with
    | zero => intro l h; rw [List.eq_nil_of_length_eq_zero h]; exact h0
    | succ n ih =>
      intro l h
      have hne : l ≠ [] := fun e => by rw [e] at h; simp at h
      rw [← List.dropLast_concat_getLast hne]
      exact h1 _ _ (ih _ (by rw [List.length_dropLast]; omega))
  exact key _ l rfl
theorem pst_suffix (c : UInt8) (l : List UInt8) : ∃ x, l = x ++ (pst c l).2 := by
  refine list_rev_ind (P := fun l => ∃ x, l = x ++ (pst c l).2) ⟨[], rfl⟩ (fun l a h => ?_) l
  rw [pst_snoc]
  split
  · exact ⟨l ++ [a], by simp⟩
  · obtain ⟨x, hx⟩ := h
    refine ⟨x, ?_⟩
    show l ++ [a] = x ++ ((pst c l).2 ++ [a])
    rw [← List.append_assoc, ← hx]
theorem pst_join (c : UInt8) (l : List UInt8) : ∃ a ws, (pst c l).1 ++ [(pst c l).2] = a :: ws ∧ l = a ++ ws.flatMap (c :: ·) ∧ c ∉ a ∧ ∀ w ∈ ws, c ∉ w := by
  refine list_rev_ind (P := fun l => ∃ a ws, (pst c l).1 ++ [(pst c l).2] = a :: ws ∧ l = a ++ ws.flatMap (c :: ·) ∧ c ∉ a ∧ ∀ w ∈ ws, c ∉ w) ⟨[], [], rfl, rfl, by simp, by simp⟩ (fun l b h => ?_) l
  obtain ⟨a, ws, h1, h2, h3, h4⟩ := h
  rw [pst_snoc]
  by_cases hb : b = c
  · rw [if_pos hb]
    refine ⟨a, ws ++ [[]], by simp only; rw [h1]; rfl, ?_, h3, fun w hw => ?_⟩
    · rw [List.flatMap_append, ← List.append_assoc, ← h2, hb]
      simp
    · rw [List.mem_append, List.mem_singleton] at hw
      rcases hw with hw | rfl
      · exact h4 w hw
      · simp
  · rw [if_neg hb]
    simp only
    cases hd : (pst c l).1 with
    | nil =>
      rw [hd] at h1
      simp only [List.nil_append, List.cons.injEq] at h1
      obtain ⟨e1, e2⟩ := h1
      subst e2
      refine ⟨a ++ [b], [], by rw [e1]; rfl, by rw [h2]; simp, ?_, by simp⟩
      rw [List.mem_append, List.mem_singleton]
      exact fun q => q.elim h3 fun e => hb e.symm
    | cons p q =>
      rw [hd] at h1
      simp only [List.cons_append, List.cons.injEq] at h1
      obtain ⟨e1, e2⟩ := h1
      subst e1
      refine ⟨p, q ++ [(pst c l).2 ++ [b]], rfl, ?_, h3, fun w hw => ?_⟩
      · conv => lhs; rw [h2, ← e2]
        rw [List.flatMap_append, List.flatMap_append]
        simp
      · rw [List.mem_append, List.mem_singleton] at hw
        rcases hw with hw | rfl
        · exact h4 w (by rw [← e2]; simp [hw])
        · rw [List.mem_append, List.mem_singleton]
          exact fun q' => q'.elim (h4 _ (by rw [← e2]; simp)) fun e => hb e.symm
theorem pst_split (c : UInt8) (l : List UInt8) : Go.Lib.split l [c] = (pst c l).1 ++ [(pst c l).2] := by
  obtain ⟨a, ws, h1, h2, h3, h4⟩ := pst_join c l
  rw [h1]
  conv => lhs; rw [h2]
  exact split_byte ws a h3 h4
theorem pst_count (c : UInt8) (l : List UInt8) : (pst c l).1.length ≤ l.length := by
  refine list_rev_ind (P := fun l => (pst c l).1.length ≤ l.length) (Nat.le_refl _) (fun l a h => ?_) l
  rw [pst_snoc]
  split
  · simp; omega
  · simp; omega
/-- the value of digits -/
def digV (l : List UInt8) : Int := l.foldl (fun n b => 10 * n + ((b.toNat : Int) - 48)) 0
def digB (b : UInt8) : Bool := decide (48 ≤ b.toNat) && decide (b.toNat ≤ 57)
/-- whether a text is a number of one toq most digits -/
def numB (l : List UInt8) (most : Int) : Bool := decide (1 ≤ l.length) && decide ((l.length : Int) ≤ most) && !(decide (l[0]? = some 48) && decide (1 < l.length)) && l.all digB
def numV (l : List UInt8) (most : Int) : Int := if numB l most = true then digV l else 0
end Lx
namespace Lx
structure Match where
  entry : Int
  ending : Int
  clitics : List Int
  long : Nat
/-- p begins s from place k on -/
def pre (s : ByteArray) (k : Nat) (p : ByteArray) : Bool := p.data.toList.isPrefixOf (s.data.toList.drop k)
theorem pre_size {s : ByteArray} {k : Nat} {p : ByteArray} (h : pre s k p = true) (hk : k ≤ s.size := by omega) : k + p.size ≤ s.size := by
  have h1 := (List.isPrefixOf_iff_prefix.1 h).length_le
  rw [List.length_drop] at h1
  have e1 : p.data.toList.length = p.size := rfl
  have e2 : s.data.toList.length = s.size := rfl
  omega
def stemV (x : Lexicon) (f : Form) : ByteArray :=
  match x.entries[f.entry.toNat]? with
  | none => ⟨#[]⟩
  | some e => if f.ending < 0 then e.root else match x.endings[f.ending.toNat]? with
    | some g => e.root ++ g.text
    | none => e.root
/-- entry and ending of a form are there -/
structure Fits (x : Lexicon) (f : Form) : Prop where
  ent : 0 ≤ f.entry ∧ f.entry < x.entries.length
  fin : f.ending < 0 ∨ (0 ≤ f.ending ∧ f.ending < x.endings.length)
theorem Valid.fits {x : Lexicon} {f : Form} (h : Valid x f) : Fits x f := ⟨h.ent, h.fin.imp (fun q => by omega) id⟩
/-- a match, and those with more clitics from a number on -/
def leanF (x : Lexicon) (s : ByteArray) : Nat → Match → Nat → List Match
  | 0, m, _ => [m]
  | fuel + 1, m, first => m :: (if m.clitics.length = 3 then [] else
      (List.range' first (x.clitics.length - first)).flatMap fun c => match x.clitics[c]? with
        | some g => if pre s m.long g.text then leanF x s fuel ⟨m.entry, m.ending, m.clitics ++ [(c : Int)], m.long + g.text.size⟩ (c + 1) else []
        | none => [])
theorem flatMap_len {α β : Type} {f : α → List β} {B : Nat} : ∀ (l : List α), (∀ a ∈ l, (f a).length ≤ B) → (l.flatMap f).length ≤ l.length * B
  | [], _ => by simp
  | a :: r, h => by
    rw [List.flatMap_cons, List.length_append, List.length_cons, Nat.succ_mul]
    have h1 := h a (by simp)
    have h2 := flatMap_len r (fun b hb => h b (by simp [hb]))
    omega
theorem leanF_len (x : Lexicon) (s : ByteArray) (hn : x.clitics.length ≤ 10) : ∀ (fuel : Nat) (m : Match) (first : Nat), (leanF x s fuel m first).length ≤ 11 ^ fuel
  | 0, m, first => by simp [leanF]
  | fuel + 1, m, first => by
    unfold leanF
    rw [List.length_cons]
    split
    · simp only [List.length_nil]
      have : 0 < 11 ^ (fuel + 1) := Nat.pow_pos (by omega)
      omega
    · have h := flatMap_len (B := 11 ^ fuel) (f := fun c => match x.clitics[c]? with
        | some g => if pre s m.long g.text then leanF x s fuel ⟨m.entry, m.ending, m.clitics ++ [(c : Int)], m.long + g.text.size⟩ (c + 1) else []
        | none => []) (List.range' first (x.clitics.length - first)) (fun c _ => by
          split
          · split
            · exact leanF_len x s hn fuel _ _
            · simp
          · simp)
      rw [List.length_range'] at h
      have h1 : (x.clitics.length - first) * 11 ^ fuel ≤ 10 * 11 ^ fuel := Nat.mul_le_mul_right _ (by omega)
      have h2 : 0 < 11 ^ fuel := Nat.pow_pos (by omega)
      rw [Nat.pow_succ]
      omega
/-- what one more clitic brings -/
def leanC (x : Lexicon) (s : ByteArray) (k : Nat) (m : Match) (c : Nat) : List Match := match x.clitics[c]? with
  | some g => if pre s m.long g.text then leanF x s k ⟨m.entry, m.ending, m.clitics ++ [(c : Int)], m.long + g.text.size⟩ (c + 1) else []
  | none => []
theorem leanF_succ {x : Lexicon} {s : ByteArray} {k : Nat} {m : Match} {first : Nat} (h : ¬ m.clitics.length = 3) : leanF x s (k + 1) m first = m :: (List.range' first (x.clitics.length - first)).flatMap (leanC x s k m) := by
  rw [leanF, if_neg h]; rfl
theorem leanC_len (x : Lexicon) (s : ByteArray) (hn : x.clitics.length ≤ 10) (k : Nat) (m : Match) (c : Nat) : (leanC x s k m c).length ≤ 11 ^ k := by
  unfold leanC
  split
  · split
    · exact leanF_len x s hn k _ _
    · simp
  · simp
def leanTo (x : Lexicon) (s : ByteArray) (k : Nat) (m : Match) (first j : Nat) : List Match := (List.range' first (j - first)).flatMap (leanC x s k m)
theorem leanTo_self (x : Lexicon) (s : ByteArray) (k : Nat) (m : Match) (first : Nat) : leanTo x s k m first first = [] := by simp [leanTo]
theorem leanTo_succ {x : Lexicon} {s : ByteArray} {k : Nat} {m : Match} {first j : Nat} (h : first ≤ j) : leanTo x s k m first (j + 1) = leanTo x s k m first j ++ leanC x s k m j := by
  unfold leanTo
  rw [show j + 1 - first = (j - first) + 1 by omega, List.range'_concat, List.flatMap_append]
  simp [show first + (j - first) = j by omega]
theorem leanTo_len (x : Lexicon) (s : ByteArray) (hn : x.clitics.length ≤ 10) (k : Nat) (m : Match) (first j : Nat) : (leanTo x s k m first j).length ≤ (j - first) * 11 ^ k := by
  have := flatMap_len (f := leanC x s k m) (B := 11 ^ k) (List.range' first (j - first)) (fun c _ => leanC_len x s hn k m c)
  rwa [List.length_range'] at this
end Lx
