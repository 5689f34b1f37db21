/- The closures of Check; slices.IndexFunc and slices.ContainsFunc at the three element types. Made by gen_clos.py. The program's Check. Made by gen_check.py. The program's CheckForm. ostraconlaw05.copied: an equal form in new memory. Glosses: plain notions. -/
import Derived.Test.YtkmimjngmfdpmaaGreatDoorMgLeaf
import Derived.Test.YtkmimjngmfdpmaaGreatDoorMgRegion
import Derived.Deep.LoopGhost
import Derived.Deep.Light
import Derived.Deep.DeepCutAuto
import Derived.Deep.QuietTactic
import Derived.BigQuiet
import Derived.Test.YtkmimjngmfdpmaaGreatDoorMgMem
import Derived.Test.YtkmimjngmfdpmaaGreatDoorMgPlain
import Derived.Lib.Strings
import Derived.Lib.ItoaNum
namespace Go.Proofs.YtkmimjngmfdpmaaGreatDoor
open Go.RowKit

/-- the place of the first one that p takes; -1: none -/
def idxOf {α : Type} (p : α → Bool) (xs : List α) : Int := match xs.findIdx? p with
  | some i => (i : Int)
  | none => -1
theorem idxOf_at {α : Type} {p : α → Bool} {xs : List α} {k : Nat} {y : α} (hy : xs[k]? = some y) (hp : p y = true) (hb : ∀ j z, j < k → xs[j]? = some z → p z = false) : idxOf p xs = (k : Int) := by
  have : xs.findIdx? p = some k := by
    obtain ⟨hl, rfl⟩ := List.getElem?_eq_some_iff.1 hy
    rw [List.findIdx?_eq_some_iff_getElem]
    exact ⟨hl, hp, fun j hj => by rw [hb j _ hj (List.getElem?_eq_getElem (by omega))]; simp⟩
  simp [idxOf, this]
theorem idxOf_none {α : Type} {p : α → Bool} {xs : List α} (hb : ∀ j z, j < xs.length → xs[j]? = some z → p z = false) : idxOf p xs = -1 := by
  have : xs.findIdx? p = none := by
    rw [List.findIdx?_eq_none_iff]
    intro x hx
    obtain ⟨j, hj, rfl⟩ := List.mem_iff_getElem.1 hx
    rw [hb j _ hj (List.getElem?_eq_getElem hj)]
  simp [idxOf, this]
theorem idxOf_ge {α : Type} (p : α → Bool) (xs : List α) : decide (0 ≤ idxOf p xs) = xs.any p := by
  unfold idxOf
  cases h : xs.findIdx? p with
  | none =>
    rw [List.findIdx?_eq_none_iff] at h
    simp only [show ¬ (0 : Int) ≤ -1 by omega, decide_false]
    exact (List.any_eq_false.2 (fun x hx => by simp [h x hx])).symm
  | some i =>
    obtain ⟨hl, hp, _⟩ := List.findIdx?_eq_some_iff_getElem.1 h
    simp only [show (0 : Int) ≤ (i : Int) by omega, decide_true]
    exact (List.any_eq_true.2 ⟨xs[i], List.getElem_mem hl, hp⟩).symm
def RetIB (n : Int) (w : World) (e : Ending) (w' : World) : Prop := e = .returned (.int .i64 n) ∧ Below w.heap.size w w'

theorem rds_take {α : Type} {w : World} {B size : Nat} {enc : α → List Value} {A : Option Addr} {n c k : Nat} {xs : List α} (h : RdS w B size enc (.slice A n c) xs) (hk : k ≤ n) : RdS w B size enc (.slice A k c) (xs.take k) := by
  obtain ⟨A', c', hv, hl, hc, hh⟩ := h
  injection hv with h1 h2 h3
  subst h1 h2 h3
  refine ⟨A, c, by rw [List.length_take, Nat.min_eq_left hk], by rw [List.length_take]; omega, hc, fun h0 => ?_⟩
  obtain ⟨b, off, hA, hb, hcell⟩ := hh (by rw [List.length_take] at h0; omega)
  refine ⟨b, off, hA, hb, fun i x hx j u hu => hcell i x ?_ j u hu⟩
  by_cases hik : i < k
  · rwa [List.getElem?_take_of_lt hik] at hx
  · rw [List.getElem?_eq_none (by rw [List.length_take]; omega)] at hx; cases hx

















end Go.Proofs.YtkmimjngmfdpmaaGreatDoor
namespace Go.Proofs.YtkmimjngmfdpmaaGreatDoor
open Go.RowKit


end Go.Proofs.YtkmimjngmfdpmaaGreatDoor
namespace Go.Proofs.YtkmimjngmfdpmaaGreatDoor
open Go.RowKit



end Go.Proofs.YtkmimjngmfdpmaaGreatDoor
namespace Go.Proofs.YtkmimjngmfdpmaaGreatDoor
open Go.RowKit

theorem wpList_append_rd {α : Type} {enc : α → List Value} {P : Program} {w : World} {ops : Array Oper} {rest : List Oper} {o : Oper} {a : Act} {Q : Exit → Act → World → Prop} (hgd : o.guard = none) (s x : Operand) (t : TypeId)
    (ho : o.op = .call { callee := .builtin .append, args := #[s, x], argTypes := #[t, t] })
    (base : Nat) (e : TypeId) (i : TypeInfo) (z : Value) (size bytes : Nat) (hu : ∀ x, (enc x).length = size) (h1 : ∀ x, ∀ u ∈ enc x, u.oneCell' = true)
    (ht : P.underlying t = some (.slice e)) (hi : P.info? e = some i) (hz : i.zero = some z)
    (hsize : i.size = size) (hby : i.bytes = bytes) (hzs : z.cells.size = size) (hsz : 0 < size)
    (v : Value) (n : Nat) (xs : List Value) (hs : a.eval s = v) (hown : w.ownsRow base e size v n xs) (B : Nat) (sv : Value) (ys : List α) (hx : a.eval x = sv) (hr : RdS w B size enc sv ys)
    (h63 : n + ys.length ≤ maxLen) (hbytes : (n + ys.length) * bytes ≤ 140737488355328) (hbase : base ≤ w.heap.size)
    (h : ∀ v' w', w'.ownsRow base e size v' (n + ys.length) (xs ++ ys.flatMap enc) → w.grownBy w' v.ownBlock → (v'.ownBlock = v.ownBlock ∨ v'.ownBlock = some w.heap.size) → wpList P ops Q rest (a.put o.dst v') w') : wpList P ops Q (o :: rest) a w :=
  wpList_plain hgd fun _ hK => wp_append_rd s x t ho base e i z size bytes hu h1 ht hi hz hsize hby hzs hsz v n xs hs hown B sv ys hx hr h63 hbytes hbase fun v' w' h2 h3 h4 => hK _ _ (h v' w' h2 h3 h4)

theorem start_fst (w : World) (A B : Obj) : ((w.alloc A).alloc B).heap[w.heap.size]? = some A := by
  have q := heap_alloc_new w A
  rw [Below.heap_alloc _ _ _ (by simp)]
  exact q

theorem dn_all {d : Array Bool} {n : Nat} (hd : d.size = n) (hall : ∀ i, i < n → d.getD i true = true) {j : Nat} (hj : j < n) : dn d j := by
  have := hall j hj
  unfold dn
  simp [Array.getD, hd, hj] at this ⊢
  exact this
theorem own_empty {w : World} {base : Nat} {e : TypeId} {size : Nat} (hb : base ≤ w.heap.size) : (w.alloc (.cells #[] e)).ownsRow base e size (.slice (some ⟨w.heap.size, 0, none⟩) 0 0) 0 [] := by
  have := World.ownsRow_lit (w := w) (base := base) (e := e) (size := size) #[] 0 hb (by decide) (by simp)
  simpa using this


end Go.Proofs.YtkmimjngmfdpmaaGreatDoor
namespace Lx
theorem eq_true_of_not_false {b : Bool} (h : ¬ b = false) : b = true := by simpa using h
def glossClit (x : Lexicon) : List Int → ByteArray → ByteArray
  | [], t => t
  | c :: r, t => glossClit x r (match x.clitics[c.toNat]? with
    | some g => t ++ (⟨#[61]⟩ ++ g.name)
    | none => t)
def glossHead (e : Entry) : ByteArray :=
  let t := e.root ++ ⟨#[47]⟩ ++ ⟨(Go.Lib.decDigits e.kind.toNat).toArray⟩
  if e.cls.toList.isEmpty then t else t ++ (⟨#[47]⟩ ++ e.cls)
def glossEnd (x : Lexicon) (f : Form) (t : ByteArray) : ByteArray :=
  if f.ending < 0 then t else match x.endings[f.ending.toNat]? with
  | some g => t ++ (⟨#[45]⟩ ++ g.name)
  | none => t
def glossV (x : Lexicon) (f : Form) : ByteArray :=
  match x.entries[f.entry.toNat]? with
  | none => ⟨#[]⟩
  | some e => glossClit x f.clitics (glossEnd x f (glossHead e))

def glossR (x : Lexicon) (f : Form) : ByteArray := if formV x f = 0 then glossV x f else ⟨#[]⟩
theorem glossR_ok {x : Lexicon} {f : Form} (h : formV x f = 0) : glossR x f = glossV x f := if_pos h
theorem glossR_no {x : Lexicon} {f : Form} (h : ¬ formV x f = 0) : glossR x f = ⟨#[]⟩ := if_neg h

theorem clit_at {n : Int} : ∀ (l : List Int) (last : Int) (_ : clitOK n last l = true) (k : Nat) (c : Int), l[k]? = some c → last < c ∧ c < n := by
  intro l
  induction l with
  | nil => intro last _ k c h; simp at h
  | cons a r ih =>
    intro last hok k c h
    simp [clitOK] at hok
    cases k with
    | zero => simp at h; subst h; exact ⟨hok.1, hok.2.1⟩
    | succ k =>
      simp at h
      have := ih a hok.2.2 k c h
      omega

/-- What a valid form is. -/
structure Valid (x : Lexicon) (f : Form) : Prop where
  chk : checkV x = 0
  ent : 0 ≤ f.entry ∧ f.entry < x.entries.length
  fin : f.ending = -1 ∨ (0 ≤ f.ending ∧ f.ending < x.endings.length)
  few : f.clitics.length ≤ 3
  cl : ∀ (k : Nat) (c : Int), f.clitics[k]? = some c → 0 ≤ c ∧ c < x.clitics.length
theorem valid_of {x : Lexicon} {f : Form} (h : formV x f = 0) : Valid x f := by
  unfold formV at h
  split at h
  · contradiction
  · rename_i h0
    split at h
    · cases h
    · rename_i h1
      split at h
      · cases h
      · rename_i h2
        split at h
        · cases h
        · rename_i h3
          split at h
          · cases h
          · rename_i h4
            have h1' := within_iff.1 (eq_true_of_not_false h1)
            refine ⟨Classical.not_not.1 h0, ⟨h1'.1, by omega⟩, ?_, by omega, fun k c hk => ?_⟩
            · have h2' := eq_true_of_not_false h2
              simp only [endOK, Bool.or_eq_true, decide_eq_true_eq, Bool.and_eq_true] at h2'
              rcases h2' with h2' | ⟨h2', _⟩
              · exact .inl h2'
              · have := within_iff.1 h2'
                exact .inr ⟨this.1, by omega⟩
            · have := clit_at f.clitics (-1) (eq_true_of_not_false h4) k c hk
              omega
theorem good_at {α : Type} {ok : α → Bool} {same : α → α → Bool} {xs : List α} (h : good ok same xs = true) {k : Nat} {e : α} (hk : xs[k]? = some e) : ok e = true := by
  have := List.all_eq_true.1 h k (List.mem_range.2 (List.getElem?_eq_some_iff.1 hk).1)
  unfold okAt at this
  rw [hk] at this
  simp at this
  exact this.1
theorem check_parts {x : Lexicon} (h : checkV x = 0) : tooMany x = false ∧ good Entry.ok Entry.same x.entries = true ∧ good Ending.ok Ending.same x.endings = true ∧ good Clitic.ok Clitic.same x.clitics = true := by
  unfold checkV at h
  split at h
  · cases h
  · rename_i h0
    split at h
    · cases h
    · rename_i h1
      split at h
      · cases h
      · rename_i h2
        split at h
        · cases h
        · rename_i h3
          exact ⟨by simpa using h0, by simpa using h1, by simpa using h2, by simpa using h3⟩
theorem form_parts {x : Lexicon} {f : Form} (h : formV x f = 0) : Valid x f ∧ ∃ e, x.entries[f.entry.toNat]? = some e ∧ 0 ≤ f.entry ∧ f.entry < (x.entries.length : Int) ∧ 1 ≤ e.kind ∧ e.kind ≤ 9 := by
  have hv := valid_of h
  refine ⟨hv, x.entries[f.entry.toNat]'(by have := hv.ent; omega), List.getElem?_eq_getElem _, hv.ent.1, hv.ent.2, ?_⟩
  have := good_at (check_parts hv.chk).2.1 (List.getElem?_eq_getElem (by have := hv.ent; omega : f.entry.toNat < x.entries.length))
  simp [Entry.ok, withinB] at this
  exact this.1.1.2
theorem ok_entry {e : Entry} (h : e.ok = true) : 1 ≤ e.root.size ∧ e.root.size ≤ 8 ∧ (e.cls.toList.isEmpty = true ∨ e.cls.size ≤ 8) ∧ 1 ≤ e.kind ∧ e.kind ≤ 9 ∧ 0 ≤ e.weight ∧ e.weight ≤ 1000 ∧ allL e.root = true := by
  simp only [Entry.ok, soundsB, nameB, withinB, Bool.and_eq_true, Bool.or_eq_true, decide_eq_true_eq] at h
  obtain ⟨⟨⟨⟨⟨h1, h2⟩, h2'⟩, h3⟩, h4⟩, h5⟩ := h
  refine ⟨h1, by omega, h4.imp id (fun q => q.1.2), h3.1, h3.2, h5.1, h5.2, h2'⟩
theorem ok_ending {e : Ending} (h : e.ok = true) : 1 ≤ e.text.size ∧ e.text.size ≤ 4 ∧ e.name.size ≤ 8 ∧ 0 ≤ e.weight ∧ e.weight ≤ 1000 ∧ allL e.text = true ∧ allS e.name = true ∧ 1 ≤ e.kind ∧ e.kind ≤ 9 := by
  simp only [Ending.ok, soundsB, nameB, withinB, Bool.and_eq_true, decide_eq_true_eq] at h
  obtain ⟨⟨⟨h0, ⟨h1, h2⟩, h2'⟩, ⟨h3, h3b⟩, h3'⟩, h4⟩ := h
  exact ⟨h1, by omega, h3b, h4.1, h4.2, h2', h3', h0.1, h0.2⟩
theorem ok_clitic {e : Clitic} (h : e.ok = true) : 1 ≤ e.text.size ∧ e.text.size ≤ 4 ∧ e.name.size ≤ 8 ∧ 0 ≤ e.weight ∧ e.weight ≤ 1000 ∧ allL e.text = true ∧ allS e.name = true := by
  simp only [Clitic.ok, soundsB, nameB, withinB, Bool.and_eq_true, decide_eq_true_eq] at h
  obtain ⟨⟨⟨⟨h1, h2⟩, h2'⟩, ⟨h3, h3b⟩, h3'⟩, h4⟩ := h
  exact ⟨h1, by omega, h3b, h4.1, h4.2, h2', h3'⟩
theorem size_isEmpty {b : ByteArray} (h : b.toList.isEmpty = true) : b.size = 0 := by
  rw [List.isEmpty_iff, Go.Lib.toList_data] at h
  have : b.data.toList.length = 0 := by rw [h]; rfl
  simpa using this
theorem glossHead_size (e : Entry) (hd : (Go.Lib.decDigits e.kind.toNat).length ≤ 1) (hr : e.root.size ≤ 8) (hc : e.cls.size ≤ 8) : (glossHead e).size ≤ 20 := by
  have h1 : (⟨#[47]⟩ : ByteArray).size = 1 := rfl
  have h2 : (⟨(Go.Lib.decDigits e.kind.toNat).toArray⟩ : ByteArray).size = (Go.Lib.decDigits e.kind.toNat).length := by simp [ByteArray.size]
  unfold glossHead
  split <;> simp only [ByteArray.size_append, h1, h2] <;> omega
theorem glossEnd_size {x : Lexicon} {f : Form} {t : ByteArray} (hg : good Ending.ok Ending.same x.endings = true) (ht : t.size ≤ 20) : (glossEnd x f t).size ≤ 40 := by
  have h1 : (⟨#[45]⟩ : ByteArray).size = 1 := rfl
  unfold glossEnd
  split
  · omega
  · split
    · rename_i g hgg
      have := (ok_ending (good_at hg hgg)).2.2.1
      simp only [ByteArray.size_append, h1]
      omega
    · omega
end Lx
