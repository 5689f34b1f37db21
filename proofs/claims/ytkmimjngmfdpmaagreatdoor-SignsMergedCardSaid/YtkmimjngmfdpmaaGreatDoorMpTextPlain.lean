/- The closures of Check; slices.IndexFunc and slices.ContainsFunc at the three element types. Made by gen_clos.py. The program's Check. Made by gen_check.py. The program's CheckForm. ostraconlaw05.copied: an equal form in new memory. Glosses: plain notions.; Glosses can be read back: plain law.; How the reference reads a gloss: what its loops keep. Plain law. A text in pieces, and numbers in it: .. -/
import Derived.Test.YtkmimjngmfdpmaaGreatDoorMpLeaf
import Derived.Test.YtkmimjngmfdpmaaGreatDoorMpRegion
import Derived.Deep.LoopGhost
import Derived.Deep.Light
import Derived.Deep.DeepCutAuto
import Derived.Deep.QuietTactic
import Derived.BigQuiet
import Derived.Lib.Strings
import Derived.Lib.ItoaNum
import Derived.Lib.Split
namespace Go.Proofs.YtkmimjngmfdpmaaGreatDoor
open Go.RowKit

/-- the place of the first one that p takes; -1: none -/
def idxOf {α : Type} (p : α → Bool) (xs : List α) : Int := match xs.findIdx? p with
  | some i => (i : Int)
  | none => -1
theorem idxOf_at {α : Type} {p : α → Bool} {xs : List α} {k : Nat} {y : α} (hy : xs[k]? = some y) (hp : p y = true) (hb : ∀ j z, j < k → xs[j]? = some z → p z = false) : idxOf p xs = (k : Int) := by
  have : xs.findIdx? p = some k := by
    obtain ⟨hl, rfl⟩ := List.getElem?_eq_some_iff.1 hy
    rw [List.findIdx?_eq_some_iff_getElem]
    exact ⟨hl, hp, fun j hj => by rw [hb j _ hj (List.getElem?_eq_getElem (by omega))]; simp⟩
  simp [idxOf, this]
theorem idxOf_none {α : Type} {p : α → Bool} {xs : List α} (hb : ∀ j z, j < xs.length → xs[j]? = some z → p z = false) : idxOf p xs = -1 := by
  have : xs.findIdx? p = none := by
    rw [List.findIdx?_eq_none_iff]
    intro x hx
    obtain ⟨j, hj, rfl⟩ := List.mem_iff_getElem.1 hx
    rw [hb j _ hj (List.getElem?_eq_getElem hj)]
  simp [idxOf, this]
theorem idxOf_ge {α : Type} (p : α → Bool) (xs : List α) : decide (0 ≤ idxOf p xs) = xs.any p := by
  unfold idxOf
  cases h : xs.findIdx? p with
  | none =>
    rw [List.findIdx?_eq_none_iff] at h
    simp only [show ¬ (0 : Int) ≤ -1 by omega, decide_false]
    exact (List.any_eq_false.2 (fun x hx => by simp [h x hx])).symm
  | some i =>
    obtain ⟨hl, hp, _⟩ := List.findIdx?_eq_some_iff_getElem.1 h
    simp only [show (0 : Int) ≤ (i : Int) by omega, decide_true]
    exact (List.any_eq_true.2 ⟨xs[i], List.getElem_mem hl, hp⟩).symm
def RetIB (n : Int) (w : World) (e : Ending) (w' : World) : Prop := e = .returned (.int .i64 n) ∧ Below w.heap.size w w'

theorem rds_take {α : Type} {w : World} {B size : Nat} {enc : α → List Value} {A : Option Addr} {n c k : Nat} {xs : List α} (h : RdS w B size enc (.slice A n c) xs) (hk : k ≤ n) : RdS w B size enc (.slice A k c) (xs.take k) := by
  obtain ⟨A', c', hv, hl, hc, hh⟩ := h
  injection hv with h1 h2 h3
  subst h1 h2 h3
  refine ⟨A, c, by rw [List.length_take, Nat.min_eq_left hk], by rw [List.length_take]; omega, hc, fun h0 => ?_⟩
  obtain ⟨b, off, hA, hb, hcell⟩ := hh (by rw [List.length_take] at h0; omega)
  refine ⟨b, off, hA, hb, fun i x hx j u hu => hcell i x ?_ j u hu⟩
  by_cases hik : i < k
  · rwa [List.getElem?_take_of_lt hik] at hx
  · rw [List.getElem?_eq_none (by rw [List.length_take]; omega)] at hx; cases hx

















end Go.Proofs.YtkmimjngmfdpmaaGreatDoor
namespace Go.Proofs.YtkmimjngmfdpmaaGreatDoor
open Go.RowKit


end Go.Proofs.YtkmimjngmfdpmaaGreatDoor
namespace Go.Proofs.YtkmimjngmfdpmaaGreatDoor
open Go.RowKit



end Go.Proofs.YtkmimjngmfdpmaaGreatDoor
namespace Go.Proofs.YtkmimjngmfdpmaaGreatDoor
open Go.RowKit

theorem wpList_append_rd {α : Type} {enc : α → List Value} {P : Program} {w : World} {ops : Array Oper} {rest : List Oper} {o : Oper} {a : Act} {Q : Exit → Act → World → Prop} (hgd : o.guard = none) (s x : Operand) (t : TypeId)
    (ho : o.op = .call { callee := .builtin .append, args := #[s, x], argTypes := #[t, t] })
    (base : Nat) (e : TypeId) (i : TypeInfo) (z : Value) (size bytes : Nat) (hu : ∀ x, (enc x).length = size) (h1 : ∀ x, ∀ u ∈ enc x, u.oneCell' = true)
    (ht : P.underlying t = some (.slice e)) (hi : P.info? e = some i) (hz : i.zero = some z)
    (hsize : i.size = size) (hby : i.bytes = bytes) (hzs : z.cells.size = size) (hsz : 0 < size)
    (v : Value) (n : Nat) (xs : List Value) (hs : a.eval s = v) (hown : w.ownsRow base e size v n xs) (B : Nat) (sv : Value) (ys : List α) (hx : a.eval x = sv) (hr : RdS w B size enc sv ys)
    (h63 : n + ys.length ≤ maxLen) (hbytes : (n + ys.length) * bytes ≤ 140737488355328) (hbase : base ≤ w.heap.size)
    (h : ∀ v' w', w'.ownsRow base e size v' (n + ys.length) (xs ++ ys.flatMap enc) → w.grownBy w' v.ownBlock → (v'.ownBlock = v.ownBlock ∨ v'.ownBlock = some w.heap.size) → wpList P ops Q rest (a.put o.dst v') w') : wpList P ops Q (o :: rest) a w :=
  wpList_plain hgd fun _ hK => wp_append_rd s x t ho base e i z size bytes hu h1 ht hi hz hsize hby hzs hsz v n xs hs hown B sv ys hx hr h63 hbytes hbase fun v' w' h2 h3 h4 => hK _ _ (h v' w' h2 h3 h4)

theorem start_fst (w : World) (A B : Obj) : ((w.alloc A).alloc B).heap[w.heap.size]? = some A := by
  have q := heap_alloc_new w A
  rw [Below.heap_alloc _ _ _ (by simp)]
  exact q

theorem dn_all {d : Array Bool} {n : Nat} (hd : d.size = n) (hall : ∀ i, i < n → d.getD i true = true) {j : Nat} (hj : j < n) : dn d j := by
  have := hall j hj
  unfold dn
  simp [Array.getD, hd, hj] at this ⊢
  exact this
theorem own_empty {w : World} {base : Nat} {e : TypeId} {size : Nat} (hb : base ≤ w.heap.size) : (w.alloc (.cells #[] e)).ownsRow base e size (.slice (some ⟨w.heap.size, 0, none⟩) 0 0) 0 [] := by
  have := World.ownsRow_lit (w := w) (base := base) (e := e) (size := size) #[] 0 hb (by decide) (by simp)
  simpa using this


end Go.Proofs.YtkmimjngmfdpmaaGreatDoor
namespace Lx
theorem eq_true_of_not_false {b : Bool} (h : ¬ b = false) : b = true := by simpa using h
def glossClit (x : Lexicon) : List Int → ByteArray → ByteArray
  | [], t => t
  | c :: r, t => glossClit x r (match x.clitics[c.toNat]? with
    | some g => t ++ (⟨#[61]⟩ ++ g.name)
    | none => t)
def glossHead (e : Entry) : ByteArray :=
  let t := e.root ++ ⟨#[47]⟩ ++ ⟨(Go.Lib.decDigits e.kind.toNat).toArray⟩
  if e.cls.toList.isEmpty then t else t ++ (⟨#[47]⟩ ++ e.cls)
def glossEnd (x : Lexicon) (f : Form) (t : ByteArray) : ByteArray :=
  if f.ending < 0 then t else match x.endings[f.ending.toNat]? with
  | some g => t ++ (⟨#[45]⟩ ++ g.name)
  | none => t
def glossV (x : Lexicon) (f : Form) : ByteArray :=
  match x.entries[f.entry.toNat]? with
  | none => ⟨#[]⟩
  | some e => glossClit x f.clitics (glossEnd x f (glossHead e))


theorem clit_at {n : Int} : ∀ (l : List Int) (last : Int) (_ : clitOK n last l = true) (k : Nat) (c : Int), l[k]? = some c → last < c ∧ c < n := by
  intro l
  induction l with
  | nil => intro last _ k c h; simp at h
  | cons a r ih =>
    intro last hok k c h
    simp [clitOK] at hok
    cases k with
    | zero => simp at h; subst h; exact ⟨hok.1, hok.2.1⟩
    | succ k =>
      simp at h
      have := ih a hok.2.2 k c h
      omega

/-- What a valid form is. -/
structure Valid (x : Lexicon) (f : Form) : Prop where
  chk : checkV x = 0
  ent : 0 ≤ f.entry ∧ f.entry < x.entries.length
  fin : f.ending = -1 ∨ (0 ≤ f.ending ∧ f.ending < x.endings.length)
  few : f.clitics.length ≤ 3
  cl : ∀ (k : Nat) (c : Int), f.clitics[k]? = some c → 0 ≤ c ∧ c < x.clitics.length
theorem valid_of {x : Lexicon} {f : Form} (h : formV x f = 0) : Valid x f := by
  unfold formV at h
  split at h
  · contradiction
  · rename_i h0
    split at h
    · cases h
    · rename_i h1
      split at h
      · cases h
      · rename_i h2
        split at h
        · cases h
        · rename_i h3
          split at h
          · cases h
          · rename_i h4
            have h1' := within_iff.1 (eq_true_of_not_false h1)
            refine ⟨Classical.not_not.1 h0, ⟨h1'.1, by omega⟩, ?_, by omega, fun k c hk => ?_⟩
            · have h2' := eq_true_of_not_false h2
              simp only [endOK, Bool.or_eq_true, decide_eq_true_eq, Bool.and_eq_true] at h2'
              rcases h2' with h2' | ⟨h2', _⟩
              · exact .inl h2'
              · have := within_iff.1 h2'
                exact .inr ⟨this.1, by omega⟩
            · have := clit_at f.clitics (-1) (eq_true_of_not_false h4) k c hk
              omega
end Lx
namespace Lx
open Go

theorem index_byte {c : UInt8} (b : List UInt8) : ∀ {a : List UInt8}, c ∉ a → Lib.index (a ++ c :: b) [c] = (a.length : Int)
  | [], _ => by simp [Lib.index]
  | x :: l, h => by
    have hx : ¬ c = x := fun e => h (by simp [e])
    have ih := index_byte (c := c) b (a := l) (fun q => h (List.mem_cons_of_mem _ q))
    rw [List.cons_append, Lib.index, ih, if_neg (by simp [hx]), if_neg (by rw [beq_iff_eq]; omega)]
    simp
theorem index_byte_none {c : UInt8} : ∀ {a : List UInt8}, c ∉ a → Lib.index a [c] = -1
  | [], _ => by simp [Lib.index]
  | x :: l, h => by
    have hx : ¬ c = x := fun e => h (by simp [e])
    rw [Lib.index, index_byte_none (c := c) (a := l) (fun q => h (List.mem_cons_of_mem _ q)), if_neg (by simp [hx])]
    rfl
theorem split_byte {c : UInt8} : ∀ (ws : List (List UInt8)) (a : List UInt8), c ∉ a → (∀ w ∈ ws, c ∉ w) → Lib.split (a ++ ws.flatMap (c :: ·)) [c] = a :: ws
  | [], a, ha, _ => by
    have e : a ++ ([] : List (List UInt8)).flatMap (c :: ·) = a := by simp
    rw [e]
    unfold Lib.split
    rw [Lib.count_miss (index_byte_none ha)]
    rfl
  | w :: ws, a, ha, hw => by
    have e : a ++ (w :: ws).flatMap (c :: ·) = a ++ c :: (w ++ ws.flatMap (c :: ·)) := by simp
    rw [e]
    have hi := index_byte (w ++ ws.flatMap (c :: ·)) ha
    have ed : (a ++ c :: (w ++ ws.flatMap (c :: ·))).drop (a.length + [c].length) = w ++ ws.flatMap (c :: ·) := by
      rw [List.length_singleton, ← List.drop_drop, List.drop_left]
      rfl
    have ih := split_byte ws w (hw w (by simp)) (fun v hv => hw v (by simp [hv]))
    unfold Lib.split at ih ⊢
    rw [Lib.count_hit (by simp) hi, ed, Nat.add_comm, Lib.splitK, hi, if_neg (by rw [beq_iff_eq]; omega)]
    simp only [Int.toNat_natCast, Nat.add_zero]
    rw [ed, ih, List.take_left]
theorem cut_byte {c : UInt8} {a : List UInt8} (b : List UInt8) (h : c ∉ a) : Lib.cut (a ++ c :: b) [c] = (a, b, true) := by
  have hi := index_byte b h
  unfold Lib.cut
  rw [hi, if_pos (by omega)]
  simp only [Int.toNat_natCast, List.length_singleton]
  rw [List.take_left, ← List.drop_drop, List.drop_left]
  rfl
theorem cut_byte_none {c : UInt8} {a : List UInt8} (h : c ∉ a) : Lib.cut a [c] = (a, [], false) := by
  unfold Lib.cut
  rw [index_byte_none h, if_neg (by omega)]


/-- one more clitic -/
def more (f : Form) (c : Nat) : Form := ⟨f.entry, f.ending, f.clitics ++ [(c : Int)]⟩
/-- f is what g is up toq clitic c -/
structure OnWay (g f : Form) (c : Nat) : Prop where
  ent : f.entry = g.entry
  fin : f.ending = g.ending
  ex : ∃ m, m ≤ g.clitics.length ∧ f.clitics = g.clitics.take m ∧ ∀ j a, m ≤ j → g.clitics[j]? = some a → (c : Int) ≤ a
end Lx
namespace Lx
open Go


/-- what the third loop keeps -/
structure OnF (x : Lexicon) (s : ByteArray) (i k c : Nat) (f : Form) : Prop where
  ent : f.entry = (i : Int)
  fin : f.ending = (k : Int) - 1
  val : formV x f = 0
  low : ∀ a ∈ f.clitics, a < (c : Int)
  way : ∀ g, formV x g = 0 → glossV x g = s → g.entry = (i : Int) → g.ending = (k : Int) - 1 → OnWay g f c
theorem OnF.few {x : Lexicon} {s : ByteArray} {i k c : Nat} {f : Form} (h : OnF x s i k c f) : f.clitics.length ≤ 3 := (valid_of h.val).few
end Lx
namespace Lx
/-- the pieces that have ended, and the one under way -/
def pst (c : UInt8) (l : List UInt8) : List (List UInt8) × List UInt8 := l.foldl (fun s b => if b = c then (s.1 ++ [s.2], []) else (s.1, s.2 ++ [b])) ([], [])
theorem pst_snoc (c : UInt8) (l : List UInt8) (b : UInt8) : pst c (l ++ [b]) = if b = c then ((pst c l).1 ++ [(pst c l).2], []) else ((pst c l).1, (pst c l).2 ++ [b]) := by
  unfold pst
  rw [List.foldl_append]
  rfl
theorem list_rev_ind {α : Type} {P : List α → Prop} (h0 : P []) (h1 : ∀ l a, P l → P (l ++ [a])) : ∀ l, P l := by
  intro l
  have key : ∀ n (l : List α), l.length = n → P l := by
    intro n
    induction n with
    | zero => intro l h; rw [List.eq_nil_of_length_eq_zero h]; exact h0
    | succ n ih =>
      intro l h
      have hne : l ≠ [] := fun e => by rw [e] at h; simp at h
      rw [← List.dropLast_concat_getLast hne]
      exact h1 _ _ (ih _ (by rw [List.length_dropLast]; omega))
  exact key _ l rfl
theorem pst_join (c : UInt8) (l : List UInt8) : ∃ a ws, (pst c l).1 ++ [(pst c l).2] = a :: ws ∧ l = a ++ ws.flatMap (c :: ·) ∧ c ∉ a ∧ ∀ w ∈ ws, c ∉ w := by
  refine list_rev_ind (P := fun l => ∃ a ws, (pst c l).1 ++ [(pst c l).2] = a :: ws ∧ l = a ++ ws.flatMap (c :: ·) ∧ c ∉ a ∧ ∀ w ∈ ws, c ∉ w) ⟨[], [], rfl, rfl, by simp, by simp⟩ (fun l b h => ?_) l
  obtain ⟨a, ws, h1, h2, h3, h4⟩ := h
  rw [pst_snoc]
  by_cases hb : b = c
  · rw [if_pos hb]
    refine ⟨a, ws ++ [[]], by simp only; rw [h1]; rfl, ?_, h3, fun w hw => ?_⟩
    · rw [List.flatMap_append, ← List.append_assoc, ← h2, hb]
      simp
    · rw [List.mem_append, List.mem_singleton] at hw
      rcases hw with hw | rfl
      · exact h4 w hw
      · simp
  · rw [if_neg hb]
    simp only
    cases hd : (pst c l).1 with
    | nil =>
      rw [hd] at h1
      simp only [List.nil_append, List.cons.injEq] at h1
      obtain ⟨e1, e2⟩ := h1
      subst e2
      refine ⟨a ++ [b], [], by rw [e1]; rfl, by rw [h2]; simp, ?_, by simp⟩
      rw [List.mem_append, List.mem_singleton]
      exact fun q => q.elim h3 fun e => hb e.symm
    | cons p q =>
      rw [hd] at h1
      simp only [List.cons_append, List.cons.injEq] at h1
      obtain ⟨e1, e2⟩ := h1
      subst e1
      refine ⟨p, q ++ [(pst c l).2 ++ [b]], rfl, ?_, h3, fun w hw => ?_⟩
      · conv => lhs; rw [h2, ← e2]
        rw [List.flatMap_append, List.flatMap_append]
        simp
      · rw [List.mem_append, List.mem_singleton] at hw
        rcases hw with hw | rfl
        · exact h4 w (by rw [← e2]; simp [hw])
        · rw [List.mem_append, List.mem_singleton]
          exact fun q' => q'.elim (h4 _ (by rw [← e2]; simp)) fun e => hb e.symm
theorem pst_split (c : UInt8) (l : List UInt8) : Go.Lib.split l [c] = (pst c l).1 ++ [(pst c l).2] := by
  obtain ⟨a, ws, h1, h2, h3, h4⟩ := pst_join c l
  rw [h1]
  conv => lhs; rw [h2]
  exact split_byte ws a h3 h4
theorem pst_count (c : UInt8) (l : List UInt8) : (pst c l).1.length ≤ l.length := by
  refine list_rev_ind (P := fun l => (pst c l).1.length ≤ l.length) (Nat.le_refl _) (fun l a h => ?_) l
  rw [pst_snoc]
  split
  · simp; omega
  · simp; omega
/-- the value of digits -/
def digV (l : List UInt8) : Int := l.foldl (fun n b => 10 * n + ((b.toNat : Int) - 48)) 0
def digB (b : UInt8) : Bool := decide (48 ≤ b.toNat) && decide (b.toNat ≤ 57)
/-- whether a text is a number of one toq most digits -/
def numB (l : List UInt8) (most : Int) : Bool := decide (1 ≤ l.length) && decide ((l.length : Int) ≤ most) && !(decide (l[0]? = some 48) && decide (1 < l.length)) && l.all digB
def numV (l : List UInt8) (most : Int) : Int := if numB l most = true then digV l else 0
end Lx
