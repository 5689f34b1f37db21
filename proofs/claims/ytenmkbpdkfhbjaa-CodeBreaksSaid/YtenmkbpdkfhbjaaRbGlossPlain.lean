/- The reference's Copy: an equal lexicon in new memory. Made by gen_copy.py.; Contracts of the leaf functions.; The closures of Check; slices.IndexFunc and slices.ContainsFunc at the three element types. Made by gen_clos.py.; The program's Check. Made by gen_check.py.; The program's CheckForm.; ostraconlaw05.copied: an equal form in new memory.; Glosses: plain notions. -/
import Derived.Test.YtenmkbpdkfhbjaaRbMem
import Derived.Deep.Light
import Derived.Test.YtenmkbpdkfhbjaaProg
import Derived.WalkKit
import Derived.WalkLawsBesides
import Derived.WalkSpells
import Derived.Lib.Hide
import Derived.Test.YtenmkbpdkfhbjaaRbSgPlain
import Derived.Deep.LoopGhost
import Derived.Deep.DeepCutAuto
import Derived.Deep.QuietTactic
import Derived.BigQuiet
import Derived.Lib.Strings
import Derived.Lib.ItoaNum
namespace Go.Proofs.Ytenmkbpdkfhbjaa
open Go.RowKit

def dn (d : Array Bool) (j : Nat) : Prop := d.getD j false = true
theorem dn_of {d : Array Bool} {i j : Nat} (hi : i < d.size) (h : dn (d.setIfInBounds i true) j) (hne : j ≠ i) : dn d j :=
  ((getD_set hi).1 h).resolve_left hne

theorem own_form {w : World} {base : Nat} {e : TypeId} {size n : Nat} {v : Value} {xs : List Value} (h : w.ownsRow base e size v n xs) : ∃ A c, v = .slice A n c := by
  rcases h.2 with ⟨rfl, rfl⟩ | ⟨g, cap, cur, rfl, _⟩
  · exact ⟨_, _, rfl⟩
  · exact ⟨_, _, rfl⟩



section
variable {w : World} {v0 v1 v2 : Value} {x : Lx.Lexicon}


end
end Go.Proofs.Ytenmkbpdkfhbjaa
namespace Go.Proofs.Ytenmkbpdkfhbjaa
open Go.RowKit

def RetB (b : Bool) (w : World) (e : Ending) (w' : World) : Prop := e = .returned (.bool b) ∧ w = w'





theorem take_succ_all (p : UInt8 → Bool) (s : ByteArray) (k : Nat) (h : k < s.size) : (s.data.toList.take (k + 1)).all p = ((s.data.toList.take k).all p && p s[k]) := by
  rw [List.take_succ_eq_append_getElem (by simpa using h), List.all_append]
  simp
  rfl

theorem not_all_of (p : UInt8 → Bool) (s : ByteArray) (k : Nat) (h : k < s.size) (hp : p s[k] = false) : s.data.toList.all p = false := by
  rw [List.all_eq_false]
  exact ⟨s[k], by simp [ByteArray.getElem_eq_getElem_data], by simp [hp]⟩

theorem ret_bool {a b : Bool} (h : a = b) : Ending.returned (.bool a) = .returned (.bool b) := by rw [h]
theorem ret_int {k : IntKind} {a b : Int} (h : a = b) : Ending.returned (.int k a) = .returned (.int k b) := by rw [h]

theorem letter_in (c : UInt8) : Lx.letter c = ((decide ((97 : Int) ≤ (c.toNat : Int)) && decide ((c.toNat : Int) ≤ 122)) || (decide ((65 : Int) ≤ (c.toNat : Int)) && decide ((c.toNat : Int) ≤ 90))) := by
  rw [Bool.eq_iff_iff]; simp [Lx.letter, UInt8.le_iff_toNat_le]; omega
theorem small_in (c : UInt8) : Lx.small c = (decide ((97 : Int) ≤ (c.toNat : Int)) && decide ((c.toNat : Int) ≤ 122)) := by
  rw [Bool.eq_iff_iff]; simp [Lx.small, UInt8.le_iff_toNat_le]; omega


def RetBB (b : Bool) (w : World) (e : Ending) (w' : World) : Prop := e = .returned (.bool b) ∧ Below w.heap.size w w'









end Go.Proofs.Ytenmkbpdkfhbjaa
namespace Go.Proofs.Ytenmkbpdkfhbjaa
open Go.RowKit

/-- the place of the first one that p takes; -1: none -/
def idxOf {α : Type} (p : α → Bool) (xs : List α) : Int := match xs.findIdx? p with
  | some i => (i : Int)
  | none => -1
theorem idxOf_at {α : Type} {p : α → Bool} {xs : List α} {k : Nat} {y : α} (hy : xs[k]? = some y) (hp : p y = true) (hb : ∀ j z, j < k → xs[j]? = some z → p z = false) : idxOf p xs = (k : Int) := by
  have : xs.findIdx? p = some k := by
    obtain ⟨hl, rfl⟩ := List.getElem?_eq_some_iff.1 hy
    rw [List.findIdx?_eq_some_iff_getElem]
    exact ⟨hl, hp, fun j hj => by rw [hb j _ hj (List.getElem?_eq_getElem (by omega))]; simp⟩
  simp [idxOf, this]
theorem idxOf_none {α : Type} {p : α → Bool} {xs : List α} (hb : ∀ j z, j < xs.length → xs[j]? = some z → p z = false) : idxOf p xs = -1 := by
  have : xs.findIdx? p = none := by
    rw [List.findIdx?_eq_none_iff]
    intro x hx
    obtain ⟨j, hj, rfl⟩ := List.mem_iff_getElem.1 hx
    rw [hb j _ hj (List.getElem?_eq_getElem hj)]
  simp [idxOf, this]
theorem idxOf_ge {α : Type} (p : α → Bool) (xs : List α) : decide (0 ≤ idxOf p xs) = xs.any p := by
  unfold idxOf
  cases h : xs.findIdx? p with
  | none =>
    rw [List.findIdx?_eq_none_iff] at h
    simp only [show ¬ (0 : Int) ≤ -1 by omega, decide_false]
    exact (List.any_eq_false.2 (fun x hx => by simp [h x hx])).symm
  | some i =>
    obtain ⟨hl, hp, _⟩ := List.findIdx?_eq_some_iff_getElem.1 h
    simp only [show (0 : Int) ≤ (i : Int) by omega, decide_true]
    exact (List.any_eq_true.2 ⟨xs[i], List.getElem_mem hl, hp⟩).symm
def RetIB (n : Int) (w : World) (e : Ending) (w' : World) : Prop := e = .returned (.int .i64 n) ∧ Below w.heap.size w w'

theorem rds_take {α : Type} {w : World} {B size : Nat} {enc : α → List Value} {A : Option Addr} {n c k : Nat} {xs : List α} (h : RdS w B size enc (.slice A n c) xs) (hk : k ≤ n) : RdS w B size enc (.slice A k c) (xs.take k) := by
  obtain ⟨A', c', hv, hl, hc, hh⟩ := h
  injection hv with h1 h2 h3
  subst h1 h2 h3
  refine ⟨A, c, by rw [List.length_take, Nat.min_eq_left hk], by rw [List.length_take]; omega, hc, fun h0 => ?_⟩
  obtain ⟨b, off, hA, hb, hcell⟩ := hh (by rw [List.length_take] at h0; omega)
  refine ⟨b, off, hA, hb, fun i x hx j u hu => hcell i x ?_ j u hu⟩
  by_cases hik : i < k
  · rwa [List.getElem?_take_of_lt hik] at hx
  · rw [List.getElem?_eq_none (by rw [List.length_take]; omega)] at hx; cases hx

















end Go.Proofs.Ytenmkbpdkfhbjaa
namespace Go.Proofs.Ytenmkbpdkfhbjaa
open Go.RowKit


end Go.Proofs.Ytenmkbpdkfhbjaa
namespace Go.Proofs.Ytenmkbpdkfhbjaa
open Go.RowKit



end Go.Proofs.Ytenmkbpdkfhbjaa
namespace Go.Proofs.Ytenmkbpdkfhbjaa
open Go.RowKit

theorem wpList_append_rd {α : Type} {enc : α → List Value} {P : Program} {w : World} {ops : Array Oper} {rest : List Oper} {o : Oper} {a : Act} {Q : Exit → Act → World → Prop} (hgd : o.guard = none) (s x : Operand) (t : TypeId)
    (ho : o.op = .call { callee := .builtin .append, args := #[s, x], argTypes := #[t, t] })
    (base : Nat) (e : TypeId) (i : TypeInfo) (z : Value) (size bytes : Nat) (hu : ∀ x, (enc x).length = size) (h1 : ∀ x, ∀ u ∈ enc x, u.oneCell' = true)
    (ht : P.underlying t = some (.slice e)) (hi : P.info? e = some i) (hz : i.zero = some z)
    (hsize : i.size = size) (hby : i.bytes = bytes) (hzs : z.cells.size = size) (hsz : 0 < size)
    (v : Value) (n : Nat) (xs : List Value) (hs : a.eval s = v) (hown : w.ownsRow base e size v n xs) (B : Nat) (sv : Value) (ys : List α) (hx : a.eval x = sv) (hr : RdS w B size enc sv ys)
    (h63 : n + ys.length ≤ maxLen) (hbytes : (n + ys.length) * bytes ≤ 140737488355328) (hbase : base ≤ w.heap.size)
    (h : ∀ v' w', w'.ownsRow base e size v' (n + ys.length) (xs ++ ys.flatMap enc) → w.grownBy w' v.ownBlock → (v'.ownBlock = v.ownBlock ∨ v'.ownBlock = some w.heap.size) → wpList P ops Q rest (a.put o.dst v') w') : wpList P ops Q (o :: rest) a w :=
  wpList_plain hgd fun _ hK => wp_append_rd s x t ho base e i z size bytes hu h1 ht hi hz hsize hby hzs hsz v n xs hs hown B sv ys hx hr h63 hbytes hbase fun v' w' h2 h3 h4 => hK _ _ (h v' w' h2 h3 h4)

theorem start_fst (w : World) (A B : Obj) : ((w.alloc A).alloc B).heap[w.heap.size]? = some A := by
  have q := heap_alloc_new w A
  rw [Below.heap_alloc _ _ _ (by simp)]
  exact q

theorem dn_all {d : Array Bool} {n : Nat} (hd : d.size = n) (hall : ∀ i, i < n → d.getD i true = true) {j : Nat} (hj : j < n) : dn d j := by
  have := hall j hj
  unfold dn
  simp [Array.getD, hd, hj] at this ⊢
  exact this
theorem own_empty {w : World} {base : Nat} {e : TypeId} {size : Nat} (hb : base ≤ w.heap.size) : (w.alloc (.cells #[] e)).ownsRow base e size (.slice (some ⟨w.heap.size, 0, none⟩) 0 0) 0 [] := by
  have := World.ownsRow_lit (w := w) (base := base) (e := e) (size := size) #[] 0 hb (by decide) (by simp)
  simpa using this


end Go.Proofs.Ytenmkbpdkfhbjaa
namespace Lx
theorem eq_true_of_not_false {b : Bool} (h : ¬ b = false) : b = true := by simpa using h
def glossClit (x : Lexicon) : List Int → ByteArray → ByteArray
  | [], t => t
  | c :: r, t => glossClit x r (match x.clitics[c.toNat]? with
    | some g => t ++ (⟨#[61]⟩ ++ g.name)
    | none => t)
def glossHead (e : Entry) : ByteArray :=
  let t := e.root ++ ⟨#[47]⟩ ++ ⟨(Go.Lib.decDigits e.kind.toNat).toArray⟩
  if e.cls.toList.isEmpty then t else t ++ (⟨#[47]⟩ ++ e.cls)
def glossEnd (x : Lexicon) (f : Form) (t : ByteArray) : ByteArray :=
  if f.ending < 0 then t else match x.endings[f.ending.toNat]? with
  | some g => t ++ (⟨#[45]⟩ ++ g.name)
  | none => t
def glossV (x : Lexicon) (f : Form) : ByteArray :=
  match x.entries[f.entry.toNat]? with
  | none => ⟨#[]⟩
  | some e => glossClit x f.clitics (glossEnd x f (glossHead e))


theorem clit_at {n : Int} : ∀ (l : List Int) (last : Int) (_ : clitOK n last l = true) (k : Nat) (c : Int), l[k]? = some c → last < c ∧ c < n := by
  intro l
  induction l with
  | nil => intro last _ k c h; simp at h
  | cons a r ih =>
    intro last hok k c h
    simp [clitOK] at hok
    cases k with
    | zero => simp at h; subst h; exact ⟨hok.1, hok.2.1⟩
    | succ k =>
      simp at h
      have := ih a hok.2.2 k c h
      omega

/-- What a valid form is. -/
structure Valid (x : Lexicon) (f : Form) : Prop where
  chk : checkV x = 0
  ent : 0 ≤ f.entry ∧ f.entry < x.entries.length
  fin : f.ending = -1 ∨ (0 ≤ f.ending ∧ f.ending < x.endings.length)
  few : f.clitics.length ≤ 3
  cl : ∀ (k : Nat) (c : Int), f.clitics[k]? = some c → 0 ≤ c ∧ c < x.clitics.length
theorem valid_of {x : Lexicon} {f : Form} (h : formV x f = 0) : Valid x f := by
  unfold formV at h
  split at h
  · contradiction
  · rename_i h0
    split at h
    · cases h
    · rename_i h1
      split at h
      · cases h
      · rename_i h2
        split at h
        · cases h
        · rename_i h3
          split at h
          · cases h
          · rename_i h4
            have h1' := within_iff.1 (eq_true_of_not_false h1)
            refine ⟨Classical.not_not.1 h0, ⟨h1'.1, by omega⟩, ?_, by omega, fun k c hk => ?_⟩
            · have h2' := eq_true_of_not_false h2
              simp only [endOK, Bool.or_eq_true, decide_eq_true_eq, Bool.and_eq_true] at h2'
              rcases h2' with h2' | ⟨h2', _⟩
              · exact .inl h2'
              · have := within_iff.1 h2'
                exact .inr ⟨this.1, by omega⟩
            · have := clit_at f.clitics (-1) (eq_true_of_not_false h4) k c hk
              omega
end Lx
