/- Cuts of the end of a line, in memory. Matches are forms of the lexicon: plain notions. -/
import Derived.Test.YtpmnpnlfgfleeaaGreatDoorMgCutsPlain
namespace Go.Proofs.YtpmnpnlfgfleeaaGreatDoor
open Go.RowKit

/-- the pointer reads as a tail; its clitics lie below S0 -/
inductive RdTl (w : World) (S0 : Nat) : Option Addr → Lx.Tail → Prop
  | nil : RdTl w S0 none []
  | cons {b : Nat} {n : Int} {f : Lx.Form} {s : Value} {q : Option Addr} {r : Lx.Tail} (hb : w.heap[b]? = some (.cells #[.int .i64 n, .int .i64 f.entry, .int .i64 f.ending, s, .pointer q] 116 (0, 0)))
      (hs : RdX w (fun b => b < S0) 1 encInt s f.clitics) (hr : RdTl w S0 q r) : RdTl w S0 (some ⟨b, 0, none⟩) ((n, f) :: r)
/-- what lay below S0 and the tails are as they were -/
structure Kept2 (S0 : Nat) (w w' : World) : Prop where
  size : w.heap.size ≤ w'.heap.size
  low : ∀ b, b < S0 → w'.heap[b]? = w.heap[b]?
  tl : ∀ (b : Nat) (cs : Array Value) (fr : Nat × Nat), w.heap[b]? = some (Obj.cells cs 116 fr) → w'.heap[b]? = w.heap[b]?
theorem Kept2.refl (S0 : Nat) (w : World) : Kept2 S0 w w := ⟨Nat.le_refl _, fun _ _ => rfl, fun _ _ _ _ => rfl⟩
theorem Kept2.trans {S0 : Nat} {a b c : World} (h : Kept2 S0 a b) (k : Kept2 S0 b c) : Kept2 S0 a c :=
  ⟨Nat.le_trans h.size k.size, fun i hi => (k.low i hi).trans (h.low i hi), fun i cs fr hi => (k.tl i cs fr ((h.tl i cs fr hi).trans hi)).trans (h.tl i cs fr hi)⟩
theorem Kept2.of_below {S0 : Nat} {w w' : World} (h : Below w.heap.size w w') (hS : S0 ≤ w.heap.size) : Kept2 S0 w w' :=
  ⟨h.size, fun b hb => h.block b (by omega), fun b cs fr hb => h.block b (Array.getElem?_eq_some_iff.1 hb).1⟩
/-- a block of another type was turned -/
theorem Kept2.of_grown {S0 : Nat} {w w' : World} {k : Nat} {cs : Array Value} {t : TypeId} {fr : Nat × Nat} (h : w.grownBy w' (some k)) (hS : S0 ≤ w.heap.size) (hk : S0 ≤ k) (ht : w.heap[k]? = some (.cells cs t fr)) (hne : t ≠ 116) : Kept2 S0 w w' :=
  ⟨h.size, fun b hb => h.block b (by omega) (fun e => by cases e; omega), fun b cs' fr' hb => h.block b (Array.getElem?_eq_some_iff.1 hb).1 (fun e => by cases e; rw [ht] at hb; cases hb; exact hne rfl)⟩
theorem Kept2.of_grown_none {S0 : Nat} {w w' : World} (h : w.grownBy w' none) (hS : S0 ≤ w.heap.size) : Kept2 S0 w w' :=
  ⟨h.size, fun b hb => h.block b (by omega) (by simp), fun b cs' fr' hb => h.block b (Array.getElem?_eq_some_iff.1 hb).1 (by simp)⟩
/-- a row of the call's own was turned -/
theorem Kept2.of_own {S0 base : Nat} {w w' : World} {v : Value} {e : TypeId} {size n : Nat} {xs : List Value} (h : w.grownBy w' v.ownBlock) (ho : w.ownsRow base e size v n xs) (hS : S0 ≤ base) (hS' : S0 ≤ w.heap.size) (hne : e ≠ 116) : Kept2 S0 w w' := by
  rcases ho.2 with ⟨rfl, _⟩ | ⟨g, cap, cur, rfl, hg, hh, _⟩
  · exact .of_grown_none h hS'
  · exact .of_grown h hS' (Nat.le_trans hS hg) hh hne
theorem RdTl.keep {w w' : World} {S0 : Nat} (hk : Kept2 S0 w w') {p : Option Addr} {t : Lx.Tail} (h : RdTl w S0 p t) : RdTl w' S0 p t := by
  induction h with
  | nil => exact .nil
  | cons hb hs _ ih => exact .cons ((hk.tl _ _ _ hb).trans hb) (hs.keep fun b hb => ⟨hb, hk.low b hb⟩) ih
inductive RdTls (w : World) (S0 : Nat) : List (Option Addr) → List Lx.Tail → Prop
  | nil : RdTls w S0 [] []
  | cons {p : Option Addr} {t : Lx.Tail} {ps : List (Option Addr)} {l : List Lx.Tail} (h : RdTl w S0 p t) (r : RdTls w S0 ps l) : RdTls w S0 (p :: ps) (t :: l)
theorem RdTls.keep {w w' : World} {S0 : Nat} (hk : Kept2 S0 w w') {ps : List (Option Addr)} {l : List Lx.Tail} (h : RdTls w S0 ps l) : RdTls w' S0 ps l := by
  induction h with
  | nil => exact .nil
  | cons h _ ih => exact .cons (h.keep hk) ih
theorem RdTls.len {w : World} {S0 : Nat} {ps : List (Option Addr)} {l : List Lx.Tail} (h : RdTls w S0 ps l) : ps.length = l.length := by
  induction h with
  | nil => rfl
  | cons _ _ ih => simp [ih]
theorem RdTls.at {w : World} {S0 : Nat} {ps : List (Option Addr)} {l : List Lx.Tail} (h : RdTls w S0 ps l) : ∀ {i : Nat} {t : Lx.Tail}, l[i]? = some t → ∃ p, ps[i]? = some p ∧ RdTl w S0 p t := by
  induction h with
  | nil => intro i t h; simp at h
  | @cons p t ps l h _ ih =>
    intro i t' h'
    cases i with
    | zero => simp at h'; subst h'; exact ⟨p, by simp, h⟩
    | succ i => simp at h'; obtain ⟨u, h1, h2⟩ := ih h'; exact ⟨u, by simpa using h1, h2⟩
theorem rdx_block {α : Type} {en : α → List Value} {size : Nat} {w : World} {g c : Nat} {cs : Array Value} {t : TypeId} {fr : Nat × Nat} {ok : Nat → Prop} {xs : List α} (hu : ∀ x, (en x).length = size) (hh : w.heap[g]? = some (.cells cs t fr)) (hc : cs.toList = xs.flatMap en) (hB : ok g) (hl : xs.length ≤ c) (hm : c ≤ 9223372036854775807) :
    RdX w ok size en (.slice (some ⟨g, 0, none⟩) xs.length c) xs := by
  obtain ⟨A, c', hv, h1, h2, h3⟩ := rds_block (B := g + 1) hu hh hc (Nat.lt_succ_self g) hl hm
  refine ⟨A, c', hv, h1, h2, fun h0 => ?_⟩
  obtain ⟨b, off, e1, _, e3⟩ := h3 h0
  injection hv with hv
  rw [e1] at hv
  cases hv
  exact ⟨g, 0, e1, hB, e3⟩
/-- the slice reads as a list of tails -/
def RdTR (w : World) (ok : Nat → Prop) (S0 : Nat) (v : Value) (l : List Lx.Tail) : Prop := ∃ ps, RdX w ok 1 encP v ps ∧ RdTls w S0 ps l
theorem RdTR.form {w : World} {ok : Nat → Prop} {S0 : Nat} {v : Value} {l : List Lx.Tail} (h : RdTR w ok S0 v l) : ∃ A c, v = .slice A l.length c := by
  obtain ⟨ps, ⟨A, c, hv, _⟩, h2⟩ := h
  exact ⟨A, c, by rw [hv, h2.len]⟩
theorem RdTR.keep {w w' : World} {ok ok' : Nat → Prop} {S0 : Nat} {v : Value} {l : List Lx.Tail} (h : RdTR w ok S0 v l) (hk : ∀ b, ok b → ok' b ∧ w'.heap[b]? = w.heap[b]?) (h2 : Kept2 S0 w w') : RdTR w' ok' S0 v l := by
  obtain ⟨ps, h1, h3⟩ := h
  exact ⟨ps, h1.keep hk, h3.keep h2⟩
theorem RdTR.nil (w : World) (ok : Nat → Prop) (S0 : Nat) : RdTR w ok S0 (.slice none 0 0) [] := ⟨[], ⟨none, 0, rfl, by simp, by omega, fun h => absurd h (by simp)⟩, .nil⟩
theorem RdTR.at {w : World} {ok : Nat → Prop} {S0 : Nat} {A : Option Addr} {n c : Nat} {l : List Lx.Tail} (h : RdTR w ok S0 (.slice A n c) l) (h0 : 0 < l.length) :
    ∃ b off, A = some ⟨b, off, none⟩ ∧ ok b ∧ ∀ (i : Nat) (t : Lx.Tail), l[i]? = some t → ∃ p, w.cell? ⟨b, off + i, none⟩ = some (.pointer p) ∧ RdTl w S0 p t := by
  obtain ⟨ps, ⟨A', c', hv, _, _, hh⟩, h2⟩ := h
  cases hv
  obtain ⟨b, off, hA, hb, hc⟩ := hh (by rw [h2.len]; exact h0)
  refine ⟨b, off, hA, hb, fun i t ht => ?_⟩
  obtain ⟨p, hp, hr⟩ := h2.at ht
  have := hc i p hp 0 _ rfl
  exact ⟨p, by simpa using this, hr⟩

/-- blocks of other types than these rows and boxes are as they were -/
def KeptO (w w' : World) : Prop := ∀ (b : Nat) (cs : Array Value) (t : TypeId) (fr : Nat × Nat), w.heap[b]? = some (Obj.cells cs t fr) → t ≠ 114 → t ≠ 113 → w'.heap[b]? = w.heap[b]?
/-- What is asked of 'add' at a list and one more. -/
def AddSays (put : List Lx.Tail → Lx.Tail → List Lx.Tail) (most : Nat) (tv : Value) (l : List Lx.Tail) (t : Lx.Tail) : Prop :=
  ∀ (w : World) (S0 base R : Nat) (p : Option Addr) (v : Value) (ps : List (Option Addr)), w.heap[R]? = some (.cells #[v, .int .i64 most, .func (.func 63) #[tv] #[]] 113 (0, 0)) → R < base → S0 ≤ R → base ≤ w.heap.size →
    w.ownsRow base 114 1 v ps.length (ps.flatMap encP) → RdTls w S0 ps l → RdTl w S0 p t →
    Calls Tryz.prog 64 #[.pointer (some ⟨R, 0, none⟩), .pointer p] w (fun e w' => e = .returned (.tuple #[]) ∧ ∃ v' ps', w'.heap[R]? = some (.cells #[v', .int .i64 most, .func (.func 63) #[tv] #[]] 113 (0, 0)) ∧
      w'.ownsRow base 114 1 v' ps'.length (ps'.flatMap encP) ∧ RdTls w' S0 ps' (put l t) ∧ Below R w w' ∧ KeptO w w')
theorem add_first {put : List Lx.Tail → Lx.Tail → List Lx.Tail} {most : Nat} {tv : Value} {t : Lx.Tail} (hm : 1 ≤ most) (hm' : most ≤ 64) (hput : put [] t = [t]) : AddSays put most tv [] t := by
  intro w S0 base R p v ps hR hRb hS hbase hown hps hp
  have h0 : ps = [] := by cases hps; rfl
  subst h0
  obtain ⟨A, c, rfl⟩ := own_form hown
  have hRv : (Value.slice A 0 c).ownBlock ≠ some R := fun e => by have := (hown.lt _ e).1; omega
  have hRl : R < w.heap.size := by omega
  refine (add_any w base R 0 0 most p (.slice A 0 c) _ [] [.pointer p] hR hown hRv hRb hm' (by omega) hbase ?_ (fun _ => by have := insert_end w base 0 p _ [] hown (by omega) hbase; simpa using this)).mono ?_
  · refine (bsearch_nil A c p _ _ ?_).mono ?_
    · exact ⟨_, _, rfl⟩
    · rintro e w' ⟨b, rfl, hb⟩
      exact ⟨b, rfl, by simpa using hb⟩
  · rintro e w' ⟨rfl, v', h1, h2, wq, h3, h4⟩
    rw [if_pos (by omega)] at h2
    obtain ⟨A', c', rfl, h5⟩ := h2
    rw [show min (0 + 1) most = 1 by omega] at h5 h1
    have hown' : w'.ownsRow base 114 1 (.slice A' 1 c') [p].length ([p].flatMap encP) := by simpa [encP] using h5
    have hRq : wq.heap[R]? = w.heap[R]? := h3.block R hRl (fun e => hRv e.symm)
    have hk1 : Kept2 S0 w wq := .of_own h3 hown (by omega) (by omega) (by decide)
    have hk2 : Kept2 S0 wq w' := .of_grown h4 (by have := h3.size; omega) hS (hRq.trans hR) (by decide)
    refine ⟨rfl, _, [p], h1, hown', by rw [hput]; exact .cons (hp.keep (hk1.trans hk2)) .nil, ?_, ?_⟩
    · exact ((Below.refl R w).grown h3 (by omega) (fun k hk => by have := (hown.lt k hk).1; omega)).grown h4 (by have := h3.size; omega) (fun k hk => by cases hk; omega)
    · intro b cs t' fr hb hn1 hn2
      have hbl := (Array.getElem?_eq_some_iff.1 hb).1
      have e1 : wq.heap[b]? = w.heap[b]? := h3.block b hbl (fun e => by
        have hon : w.ownsRow base 114 1 (.slice A 0 c) 0 [] := hown
        rcases hon.2 with ⟨q, _⟩ | ⟨g, cap, cur, q, _, hh, _⟩
        · rw [q] at e; simp [Value.ownBlock] at e
        · rw [q] at e; simp [Value.ownBlock] at e; subst e; rw [hb] at hh; cases hh; exact hn1 rfl)
      exact (h4.block b (by have := h3.size; omega) (fun e => by cases e; rw [hR] at hb; cases hb; exact hn2 rfl)).trans e1
end Go.Proofs.YtpmnpnlfgfleeaaGreatDoor
namespace Lx
structure MFit (x : Lexicon) (n : Nat) (m : Match) : Prop where
  form : FitsC x m.form
  pos : 1 ≤ m.long
  le : m.long ≤ n
theorem leanF_fits {x : Lexicon} {s : ByteArray} : ∀ (fuel : Nat) (m : Match) (first : Nat), m.clitics.length + fuel ≤ 3 → MFit x s.size m → ∀ m' ∈ leanF x s fuel m first, MFit x s.size m'
  | 0, m, first, _, h, m', hm => by simp [leanF] at hm; subst hm; exact h
  | fuel + 1, m, first, hf, h, m', hm => by
    unfold leanF at hm
    rw [List.mem_cons] at hm
    rcases hm with rfl | hm
    · exact h
    · rw [if_neg (by omega), List.mem_flatMap] at hm
      obtain ⟨c, hc, hm⟩ := hm
      split at hm
      · rename_i g hg
        split at hm
        · rename_i hp
          have hps := pre_size hp h.le
          refine leanF_fits fuel ⟨m.entry, m.ending, m.clitics ++ [(c : Int)], m.long + g.text.size⟩ (c + 1) (by simp; omega) ⟨⟨⟨h.form.ent, h.form.fin⟩, by simp [Match.form]; omega, fun k d hd => ?_⟩, ?_, hps⟩ m' hm
          · simp only [Match.form] at hd
            by_cases hk : k < m.clitics.length
            · rw [List.getElem?_append_left hk] at hd
              exact h.form.cl k d hd
            · rw [List.getElem?_append_right (by omega)] at hd
              have hcl := (List.getElem?_eq_some_iff.1 hg).1
              by_cases hk0 : k - m.clitics.length = 0
              · rw [hk0] at hd; simp at hd; subst hd; omega
              · rw [List.getElem?_eq_none (by simp; omega)] at hd; cases hd
          · have := h.pos; show 1 ≤ m.long + g.text.size; omega
        · simp at hm
      · simp at hm
theorem matchesV_fits {x : Lexicon} {s : ByteArray} (hc : checkV x = 0) : ∀ m ∈ matchesV x s, MFit x s.size m := by
  obtain ⟨_, h1, h2, _⟩ := check_parts hc
  intro m hm
  unfold matchesV matchesN at hm
  rw [List.mem_flatMap] at hm
  obtain ⟨i, hi, hm⟩ := hm
  rw [List.mem_range] at hi
  unfold matchesE at hm
  split at hm
  · rename_i e he
    split at hm
    · unfold matchesTo at hm
      rw [List.mem_flatMap] at hm
      obtain ⟨q, hq, hm⟩ := hm
      rw [List.mem_range] at hq
      unfold matchesQ at hm
      split at hm
      · simp at hm
      · split at hm
        · rename_i hp
          have hps := pre_size hp (Nat.zero_le _)
          refine leanF_fits 3 ⟨(i : Int), (q : Int) - 1, [], (stemV x ⟨(i : Int), (q : Int) - 1, []⟩).size⟩ 0 (by simp) ⟨⟨⟨⟨by simp [Match.form], by simp only [Match.form]; omega⟩, by simp only [Match.form]; omega⟩, by simp [Match.form], by simp [Match.form]⟩, ?_, by simpa using hps⟩ m hm
          have he1 := (ok_entry (good_at h1 he)).1
          show 1 ≤ (stemV x ⟨(i : Int), (q : Int) - 1, []⟩).size
          unfold stemV
          simp only [Int.toNat_natCast, he]
          split
          · exact he1
          · split
            · rw [ByteArray.size_append]; omega
            · exact he1
        · simp at hm
    · simp at hm
  · simp at hm
end Lx
