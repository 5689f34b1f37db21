/- Names of signs: plain notions, and that a number is its digits. Forms with given sounds: plain notions. Lists of matches as values; lists of these. lexicon.begin: the matches at each place of a line. Made by gen_begin.py. -/
import Derived.Test.YtkmimjngmfdpmaaGreatDoorMgSgParsePlain
import Derived.Lib.ItoaNum
import Derived.Lib.Small
import Derived.Test.YtkmimjngmfdpmaaGreatDoorMgMatches
import Derived.Lib.OthersKept
namespace Sg
open Go
def perBad (l : SList) (p : Int) : Prop := p < 1 ∨ l.periods < p
instance (l : SList) (p : Int) : Decidable (perBad l p) := by unfold perBad; infer_instance
def signBad (l : SList) (s : Int) : Prop := s < 0 ∨ (l.signs.length : Int) ≤ s
instance (l : SList) (s : Int) : Decidable (signBad l s) := by unfold signBad; infer_instance
/-- the error of Values -/
def valuesE (l : SList) (sign period : Int) : Int := if checkV l ≠ 0 then checkV l else if signBad l sign then 1 else if perBad l period then 13 else 0
/-- the error of Bearers -/
def bearE (l : SList) (kind period : Int) : Int := if checkV l ≠ 0 then checkV l else if kind < 1 ∨ 3 < kind then 1 else if perBad l period then 13 else 0
def sizeE (l : SList) (sign turn : Int) : Int := if checkV l ≠ 0 then checkV l else if signBad l sign ∨ turn < 0 ∨ 3 < turn then 1 else 0
def nameAt (i : Int) (t : ByteArray) : ByteArray × Int := if i < 0 then (⟨#[]⟩, 3) else if i = 0 then (t, 0) else (t ++ bs (Lib.itoa (i + 1)), 0)
def placeOf : List Int → Int → Int
  | [], _ => -1
  | a :: l, x => if a = x then 0 else if placeOf l x < 0 then -1 else placeOf l x + 1
def nameV (l : SList) (sign : Int) (t : ByteArray) (period : Int) : ByteArray × Int := if valuesE l sign period ≠ 0 then (⟨#[]⟩, valuesE l sign period) else nameAt (placeOf (bearV l.signs 1 t period) sign) t
theorem placeOf_at : ∀ {l : List Int} {x : Int} {k : Nat}, l[k]? = some x → (∀ j, j < k → l[j]? ≠ some x) → placeOf l x = (k : Int)
  | [], _, k, h, _ => by simp at h
  | a :: l, x, 0, h, _ => by
    simp at h
    simp [placeOf, h]
  | a :: l, x, k + 1, h, hn => by
    have h0 : a ≠ x := fun e => hn 0 (by omega) (by simp [e])
    have ih := placeOf_at (l := l) (x := x) (k := k) (by simpa using h) (fun j hj e => hn (j + 1) (by omega) (by simpa using e))
    rw [placeOf, if_neg h0, ih, if_neg (by omega)]
    omega
theorem placeOf_none : ∀ {l : List Int} {x : Int}, x ∉ l → placeOf l x = -1
  | [], _, _ => rfl
  | a :: l, x, h => by
    simp only [List.mem_cons, not_or] at h
    rw [placeOf, if_neg (fun e => h.1 e.symm), placeOf_none h.2, if_pos (by omega)]
/-- digits -/
def numOk (d : List UInt8) : Bool := d.all Lx.digB && !decide (d = [49]) && !decide (d[0]? = some 48)
def notDig (b : UInt8) : Bool := !Lx.digB b
def textOf (n : List UInt8) : List UInt8 := n.takeWhile notDig
def digsOf (n : List UInt8) : List UInt8 := n.dropWhile notDig
def numOf (d : List UInt8) : Int := if d = [] then 1 else Lx.digV d
def readAt (b : List Int) (n : Int) (t : ByteArray) : Int × ByteArray × Int := if (b.length : Int) < n then (0, ⟨#[]⟩, 3) else (b.getD (n - 1).toNat 0, t, 0)
def readNameV (l : SList) (n : ByteArray) (period : Int) : Int × ByteArray × Int :=
  if checkV l ≠ 0 then (0, ⟨#[]⟩, checkV l) else if perBad l period then (0, ⟨#[]⟩, 13) else
  if textB 1 (bs (textOf n.data.toList)) = true ∧ numOk (digsOf n.data.toList) = true then readAt (bearV l.signs 1 (bs (textOf n.data.toList)) period) (numOf (digsOf n.data.toList)) (bs (textOf n.data.toList)) else (0, ⟨#[]⟩, 4)
theorem digV_snoc (l : List UInt8) (b : UInt8) : Lx.digV (l ++ [b]) = 10 * Lx.digV l + ((b.toNat : Int) - 48) := by
  unfold Lx.digV
  rw [List.foldl_append]
  rfl
theorem digV_nonneg : ∀ l : List UInt8, l.all Lx.digB = true → 0 ≤ Lx.digV l := by
  refine Lx.list_rev_ind (P := fun l => l.all Lx.digB = true → 0 ≤ Lx.digV l) (fun _ => Int.le_refl _) (fun l a ih h => ?_)
  rw [List.all_append, Bool.and_eq_true] at h
  rw [digV_snoc]
  have h1 := ih h.1
  have h2 : 48 ≤ a.toNat := by
    have := h.2
    simp [Lx.digB] at this
    exact this.1
  omega
theorem digV_pos : ∀ l : List UInt8, l ≠ [] → l.all Lx.digB = true → l[0]? ≠ some 48 → 1 ≤ Lx.digV l := by
  refine Lx.list_rev_ind (P := fun l => l ≠ [] → l.all Lx.digB = true → l[0]? ≠ some 48 → 1 ≤ Lx.digV l) (fun h => absurd rfl h) (fun l a ih _ h h0 => ?_)
  rw [List.all_append, Bool.and_eq_true] at h
  rw [digV_snoc]
  have h2 : 48 ≤ a.toNat := by
    have := h.2
    simp [Lx.digB] at this
    exact this.1
  by_cases hl : l = []
  · subst hl
    simp only [List.nil_append, List.getElem?_cons_zero, ne_eq, Option.some.injEq] at h0
    have : a.toNat ≠ 48 := fun e => h0 (by rw [← UInt8.toNat_inj, e]; rfl)
    have : Lx.digV [] = 0 := rfl
    omega
  · have := ih hl h.1 (by
      cases l with
      | nil => exact absurd rfl hl
      | cons b l => simpa using h0)
    omega
/-- a number without a leading nought is its decimal -/
theorem dec_of_dig : ∀ l : List UInt8, l ≠ [] → l.all Lx.digB = true → l[0]? ≠ some 48 → Lib.decDigits (Lx.digV l).toNat = l := by
  refine Lx.list_rev_ind (P := fun l => l ≠ [] → l.all Lx.digB = true → l[0]? ≠ some 48 → Lib.decDigits (Lx.digV l).toNat = l) (fun h => absurd rfl h) (fun l a ih _ h h0 => ?_)
  rw [List.all_append, Bool.and_eq_true] at h
  have h2 : 48 ≤ a.toNat ∧ a.toNat ≤ 57 := by
    have := h.2
    simpa [Lx.digB] using this
  rw [digV_snoc]
  by_cases hl : l = []
  · subst hl
    have e0 : Lx.digV [] = 0 := rfl
    rw [e0, Lib.decDigits, dif_pos (by omega)]
    have : 48 + (10 * 0 + ((a.toNat : Int) - 48)).toNat = a.toNat := by omega
    rw [this, List.nil_append]
    simp
  · have hz : l[0]? ≠ some 48 := by
      cases l with
      | nil => exact absurd rfl hl
      | cons b l => simpa using h0
    have hp := digV_pos l hl h.1 hz
    have e := ih hl h.1 hz
    rw [Lib.decDigits, dif_neg (by omega)]
    have e1 : (10 * Lx.digV l + ((a.toNat : Int) - 48)).toNat / 10 = (Lx.digV l).toNat := by omega
    have e2 : 48 + (10 * Lx.digV l + ((a.toNat : Int) - 48)).toNat % 10 = a.toNat := by omega
    rw [e1, e2, e]
    simp
theorem dig_of_dec : ∀ n : Nat, (Lib.decDigits n).all Lx.digB = true ∧ Lx.digV (Lib.decDigits n) = (n : Int) := by
  intro n
  induction n using Nat.strongRecOn with
  | ind n ih =>
    rw [Lib.decDigits]
    split
    · rename_i h
      have e : (UInt8.ofNat (48 + n)).toNat = 48 + n := by rw [UInt8.toNat_ofNat']; omega
      constructor
      · simp only [List.all_cons, List.all_nil, Bool.and_true, Lx.digB, e]
        simp; omega
      · show 10 * (0 : Int) + (((UInt8.ofNat (48 + n)).toNat : Int) - 48) = n
        rw [e]; omega
    · rename_i h
      obtain ⟨h1, h2⟩ := ih (n / 10) (by omega)
      have e : (UInt8.ofNat (48 + n % 10)).toNat = 48 + n % 10 := by rw [UInt8.toNat_ofNat']; omega
      constructor
      · rw [List.all_append, h1]
        simp only [List.all_cons, List.all_nil, Bool.and_true, Lx.digB, e]
        simp; omega
      · rw [digV_snoc, h2, e]; omega
/-- digits are the decimal of a number exactly if that is their value -/
theorem dec_iff {d : List UInt8} (h0 : d ≠ []) (h1 : d.all Lx.digB = true) (h2 : d[0]? ≠ some 48) (n : Nat) : d = Lib.decDigits n ↔ Lx.digV d = (n : Int) := by
  constructor
  · intro h
    rw [h]
    exact (dig_of_dec n).2
  · intro h
    have := dec_of_dig d h0 h1 h2
    rw [h] at this
    simpa using this.symm
end Sg
namespace Lx
/-- the lists of clitics that go on from a list and whose texts are t, one after the other -/
def tailsV (x : Lexicon) : Nat → List Int → Nat → List UInt8 → List (List Int)
  | 0, begun, _, t => if t = [] then [begun] else []
  | k + 1, begun, first, t => if t = [] then [begun] else (List.range' first (x.clitics.length - first)).flatMap fun c => match x.clitics[c]? with
      | some g => if g.text.data.toList.isPrefixOf t then tailsV x k (begun ++ [(c : Int)]) (c + 1) (t.drop g.text.size) else []
      | none => []
def tailC (x : Lexicon) (k : Nat) (begun : List Int) (t : List UInt8) (c : Nat) : List (List Int) := match x.clitics[c]? with
  | some g => if g.text.data.toList.isPrefixOf t then tailsV x k (begun ++ [(c : Int)]) (c + 1) (t.drop g.text.size) else []
  | none => []
def tailsTo (x : Lexicon) (k : Nat) (begun : List Int) (t : List UInt8) (first j : Nat) : List (List Int) := (List.range' first (j - first)).flatMap (tailC x k begun t)
theorem tailsV_nil (x : Lexicon) (k : Nat) (begun : List Int) (first : Nat) : tailsV x k begun first [] = [begun] := by
  cases k <;> simp [tailsV]
theorem tailsV_zero {x : Lexicon} {begun : List Int} {first : Nat} {t : List UInt8} (h : t ≠ []) : tailsV x 0 begun first t = [] := by simp [tailsV, h]
theorem tailsV_succ {x : Lexicon} {k : Nat} {begun : List Int} {first : Nat} {t : List UInt8} (h : t ≠ []) : tailsV x (k + 1) begun first t = tailsTo x k begun t first x.clitics.length := by
  rw [tailsV, if_neg h]; rfl
theorem tailsTo_self (x : Lexicon) (k : Nat) (begun : List Int) (t : List UInt8) (first : Nat) : tailsTo x k begun t first first = [] := by simp [tailsTo]
theorem tailsTo_succ {x : Lexicon} {k : Nat} {begun : List Int} {t : List UInt8} {first j : Nat} (h : first ≤ j) : tailsTo x k begun t first (j + 1) = tailsTo x k begun t first j ++ tailC x k begun t j := by
  unfold tailsTo
  rw [show j + 1 - first = (j - first) + 1 by omega, List.range'_concat, List.flatMap_append]
  simp [show first + (j - first) = j by omega]
theorem tailsV_len (x : Lexicon) (hn : x.clitics.length ≤ 10) : ∀ (k : Nat) (begun : List Int) (first : Nat) (t : List UInt8), (tailsV x k begun first t).length ≤ 11 ^ k
  | 0, begun, first, t => by unfold tailsV; split <;> simp
  | k + 1, begun, first, t => by
    unfold tailsV
    have hp : 0 < 11 ^ k := Nat.pow_pos (by omega)
    split
    · simp only [List.length_singleton, Nat.pow_succ]; omega
    · have h := flatMap_len (B := 11 ^ k) (f := tailC x k begun t) (List.range' first (x.clitics.length - first)) (fun c _ => by
        unfold tailC
        split
        · split
          · exact tailsV_len x hn k _ _ _
          · simp
        · simp)
      rw [List.length_range'] at h
      have h1 : (x.clitics.length - first) * 11 ^ k ≤ 10 * 11 ^ k := Nat.mul_le_mul_right _ (by omega)
      rw [Nat.pow_succ]
      exact Nat.le_trans h (by omega)
theorem tailC_len (x : Lexicon) (hn : x.clitics.length ≤ 10) (k : Nat) (begun : List Int) (t : List UInt8) (c : Nat) : (tailC x k begun t c).length ≤ 11 ^ k := by
  unfold tailC
  split
  · split
    · exact tailsV_len x hn k _ _ _
    · simp
  · simp
theorem tailsTo_len (x : Lexicon) (hn : x.clitics.length ≤ 10) (k : Nat) (begun : List Int) (t : List UInt8) (first j : Nat) : (tailsTo x k begun t first j).length ≤ (j - first) * 11 ^ k := by
  have := flatMap_len (f := tailC x k begun t) (B := 11 ^ k) (List.range' first (j - first)) (fun c _ => tailC_len x hn k begun t c)
  rwa [List.length_range'] at this
end Lx
namespace Go.Proofs.YtkmimjngmfdpmaaGreatDoor
open Go.RowKit

/-- The value reads as a list of matches, its blocks within 'ok'. -/
def RdMs (w : World) (ok : Nat → Prop) (v : Value) (ms : List Lx.Match) : Prop :=
  ∃ A c, v = .slice A ms.length c ∧ ms.length ≤ c ∧ c ≤ 9223372036854775807 ∧
    (0 < ms.length → ∃ b off, A = some ⟨b, off, none⟩ ∧ ok b ∧ ∀ i m, ms[i]? = some m →
      w.cell? ⟨b, off + i * 4, none⟩ = some (.int .i64 m.entry) ∧ w.cell? ⟨b, off + i * 4 + 1, none⟩ = some (.int .i64 m.ending) ∧
      (∃ s, w.cell? ⟨b, off + i * 4 + 2, none⟩ = some s ∧ RdX w ok 1 encInt s m.clitics) ∧ w.cell? ⟨b, off + i * 4 + 3, none⟩ = some (.int .i64 m.long))
theorem RdMs.keep {w w' : World} {v : Value} {ms : List Lx.Match} {ok ok' : Nat → Prop} (h : RdMs w ok v ms) (hk : ∀ b, ok b → ok' b ∧ w'.heap[b]? = w.heap[b]?) : RdMs w' ok' v ms := by
  obtain ⟨A, c, hv, hl, hc, hh⟩ := h
  refine ⟨A, c, hv, hl, hc, fun h0 => ?_⟩
  obtain ⟨b, off, hA, hb, hcell⟩ := hh h0
  refine ⟨b, off, hA, (hk b hb).1, fun i m hm => ?_⟩
  obtain ⟨h1, h2, ⟨s, h3, h3'⟩, h4⟩ := hcell i m hm
  have e := fun (o : Nat) => World.cell?_of_block (w := w) (w' := w') (a := ⟨b, o, none⟩) (hk b hb).2
  exact ⟨(e _).trans h1, (e _).trans h2, ⟨s, (e _).trans h3, h3'.keep hk⟩, (e _).trans h4⟩

theorem RdMs.form {w : World} {ok : Nat → Prop} {v : Value} {ms : List Lx.Match} (h : RdMs w ok v ms) : ∃ A c, v = .slice A ms.length c := by
  obtain ⟨A, c, hv, _⟩ := h
  exact ⟨A, c, hv⟩

/-- The values read as these lists. -/
inductive RdT (w : World) (ok : Nat → Prop) : List Value → List (List Lx.Match) → Prop
  | nil : RdT w ok [] []
  | cons {v : Value} {ms : List Lx.Match} {vs : List Value} {ls : List (List Lx.Match)} (h : RdMs w ok v ms) (r : RdT w ok vs ls) : RdT w ok (v :: vs) (ms :: ls)
theorem RdT.keep {w w' : World} {ok ok' : Nat → Prop} (hk : ∀ b, ok b → ok' b ∧ w'.heap[b]? = w.heap[b]?) {vs : List Value} {ls : List (List Lx.Match)} (h : RdT w ok vs ls) : RdT w' ok' vs ls := by
  induction h with
  | nil => exact .nil
  | cons h _ ih => exact .cons (h.keep hk) ih
theorem RdT.snoc {w : World} {ok : Nat → Prop} {v : Value} {ms : List Lx.Match} (hv : RdMs w ok v ms) {vs : List Value} {ls : List (List Lx.Match)} (h : RdT w ok vs ls) : RdT w ok (vs ++ [v]) (ls ++ [ms]) := by
  induction h with
  | nil => exact .cons hv .nil
  | cons h _ ih => exact .cons h ih
theorem RdT.at {w : World} {ok : Nat → Prop} {vs : List Value} {ls : List (List Lx.Match)} (h : RdT w ok vs ls) : ∀ {i : Nat} {ms : List Lx.Match}, ls[i]? = some ms → ∃ v, vs[i]? = some v ∧ RdMs w ok v ms := by
  induction h with
  | nil => intro i ms h; simp at h
  | @cons v ms vs ls h _ ih =>
    intro i ms' h'
    cases i with
    | zero => simp at h'; subst h'; exact ⟨v, by simp, h⟩
    | succ i => simp at h'; obtain ⟨u, h1, h2⟩ := ih h'; exact ⟨u, by simpa using h1, h2⟩






/-- a slice value as a row of one cell -/
def encSl (q : Option Addr × Nat × Nat) : List Value := [.slice q.1 q.2.1 q.2.2]
theorem len_sl (q : Option Addr × Nat × Nat) : (encSl q).length = 1 := rfl
theorem one_sl (q : Option Addr × Nat × Nat) : ∀ u ∈ encSl q, u.oneCell' = true := by intro u hu; simp [encSl] at hu; subst hu; rfl


end Go.Proofs.YtkmimjngmfdpmaaGreatDoor
namespace Go.Proofs.YtkmimjngmfdpmaaGreatDoor
open Go.RowKit

def Lx.beginTo (x : Lx.Lexicon) (s : ByteArray) (n : Nat) : List (List Lx.Match) := (List.range n).map fun k => Lx.matchesV x (s.extract k s.size)
def Lx.beginV (x : Lx.Lexicon) (s : ByteArray) : List (List Lx.Match) := Lx.beginTo x s s.size
theorem Lx.beginTo_succ (x : Lx.Lexicon) (s : ByteArray) (n : Nat) : Lx.beginTo x s (n + 1) = Lx.beginTo x s n ++ [Lx.matchesV x (s.extract n s.size)] := by
  simp [Lx.beginTo, List.range_succ]
theorem Lx.beginTo_len (x : Lx.Lexicon) (s : ByteArray) (n : Nat) : (Lx.beginTo x s n).length = n := by simp [Lx.beginTo]

theorem grown_iterAt (w : World) (k : Nat) (s : ByteArray) (pos : Nat) : w.grownBy (w.iterAt k s pos) (some k) :=
  ⟨rfl, rfl, rfl, by rw [Lib.iterAt_size]; exact Nat.le_refl _, fun i _ hne => Lib.iterAt_other w k i s pos (fun e => hne (by rw [e]))⟩
theorem grown_setCell (w : World) (k o : Nat) (u : Value) : w.grownBy (w.setCell ⟨k, o, none⟩ u) (some k) :=
  ⟨rfl, rfl, rfl, by simp [World.setCell], fun i _ hne => by simp [World.setCell, Array.getElem?_modify, show ¬ k = i from fun e => hne (by rw [e])]⟩
theorem all8 {p : Nat → Prop} (h0 : p 0) (h1 : p 1) (h2 : p 2) (h3 : p 3) (h4 : p 4) (h5 : p 5) (h6 : p 6) (h7 : p 7) : ∀ j, j < 8 → p j := by
  intro j hj
  have : j = 0 ∨ j = 1 ∨ j = 2 ∨ j = 3 ∨ j = 4 ∨ j = 5 ∨ j = 6 ∨ j = 7 := by omega
  rcases this with rfl | rfl | rfl | rfl | rfl | rfl | rfl | rfl <;> assumption

theorem iter_new (W : World) (s : ByteArray) (k : Nat) : (W.iter s k).heap[W.heap.size]? = some (.stringIter s k) := heap_alloc_new W _
theorem iter_old (W : World) (s : ByteArray) (k b : Nat) (h : b < W.heap.size) : (W.iter s k).heap[b]? = W.heap[b]? := Below.heap_alloc _ _ _ h
theorem iter_size (W : World) (s : ByteArray) (k : Nat) : (W.iter s k).heap.size = W.heap.size + 1 := by simp [World.iter]
theorem below_iter_at {B : Nat} {a W : World} (h : Below B a W) (hB : B ≤ W.heap.size) (s : ByteArray) (k : Nat) : Below B a (W.iter s k) :=
  h.trans ⟨rfl, rfl, rfl, by rw [iter_size]; omega, fun i hi => iter_old W s k i (by omega)⟩
theorem start3 (w : World) (A B C : Obj) (s : ByteArray) : Below w.heap.size w ((((w.alloc A).alloc B).alloc C).iter s 0) ∧ ((((w.alloc A).alloc B).alloc C).iter s 0).heap.size = w.heap.size + 4 ∧ ((((w.alloc A).alloc B).alloc C).iter s 0).heap[w.heap.size]? = some A ∧
    ((((w.alloc A).alloc B).alloc C).iter s 0).heap[w.heap.size + 1]? = some B ∧ ((((w.alloc A).alloc B).alloc C).iter s 0).heap[w.heap.size + 2]? = some C ∧ ((((w.alloc A).alloc B).alloc C).iter s 0).heap[w.heap.size + 3]? = some (.stringIter s 0) := by
  obtain ⟨h0, h1, h2, h3⟩ := heap3 w A B C
  refine ⟨below_iter_at (below3 _ _ _ _) (by omega) _ _, by rw [iter_size, h3], ?_, ?_, ?_, ?_⟩
  · rw [iter_old _ _ _ _ (by omega)]; exact h0
  · rw [iter_old _ _ _ _ (by omega)]; exact h1
  · rw [iter_old _ _ _ _ (by omega)]; exact h2
  · have := iter_new (((w.alloc A).alloc B).alloc C) s 0
    rwa [h3] at this
theorem eval_tmp {t : Array Value} {k : Nat} {v : Value} (h : t[k]? = some v) : (⟨t, []⟩ : Act).eval (.tmp k) = v := by
  simp [Act.eval, Array.getD_eq_getD_getElem?, h]
theorem allL_at {s : ByteArray} (h : Lx.allL s = true) {k : Nat} (hk : k < s.size) : Lx.letter s[k] = true := by
  unfold Lx.allL at h
  rw [List.all_eq_true] at h
  exact h _ (by simp [ByteArray.getElem_eq_getElem_data])



end Go.Proofs.YtkmimjngmfdpmaaGreatDoor
