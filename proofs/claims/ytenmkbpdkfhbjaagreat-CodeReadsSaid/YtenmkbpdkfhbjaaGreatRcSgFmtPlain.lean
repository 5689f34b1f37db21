/- Items and nodes: from one to the other and back; a text that was read is written as it was: plain.; What is written is read as it was: plain law of the line code.; A text that is written in the line code is read as it was: plain law.; A text that is written in the tree code is read as it was: plain law.; A valid text's items: they may be written in the line code: plain law.; Glosses can be read .. -/
import Derived.Test.YtenmkbpdkfhbjaaGreatRcCdWay
import Derived.Test.YtenmkbpdkfhbjaaGreatRcShelf
import Derived.Lib.Split
import Derived.Test.YtenmkbpdkfhbjaaGreatRcLeaf
import Derived.Lib.ItoaNum
import Derived.Lib.Small
import Derived.Lib.ItoaLen
namespace Cd
open Go
def growV : Nat → Int → List Tx.Node → List Item × List Tx.Node
 | 0, _, l => ([], l)
 | _ + 1, _, [] => ([], [])
 | f + 1, d, n :: l => if d ≤ n.depth then (Item.mk n [] 0 (growV f (d + 1) l).1 :: (growV f d (growV f (d + 1) l).2).1, (growV f d (growV f (d + 1) l).2).2) else ([], n :: l)
mutual
def eraI (d : Int) : Item → Item
 | .mk n _ _ ks => .mk { n with depth := d } [] 0 (eraL (d + 1) ks)
def eraL (d : Int) : List Item → List Item
 | [] => []
 | x :: xs => eraI d x :: eraL d xs
end
mutual
def sizeI : Item → Nat
 | .mk _ _ _ ks => sizeL ks + 1
def sizeL : List Item → Nat
 | [] => 0
 | x :: xs => sizeI x + sizeL xs
end
mutual
theorem flatI_len (d : Int) : ∀ x : Item, (flatI d x).length = sizeI x
 | .mk n c p ks => by rw [flatI, sizeI, List.length_cons, flatL_len (d + 1) ks]
theorem flatL_len (d : Int) : ∀ xs : List Item, (flatL d xs).length = sizeL xs
 | [] => by rw [flatL, sizeL]; rfl
 | x :: xs => by rw [flatL, sizeL, List.length_append, flatI_len d x, flatL_len d xs]
end
theorem grow_nil (f : Nat) (d : Int) : growV f d [] = ([], []) := by cases f <;> rfl
theorem grow_stop {f : Nat} {d : Int} {r : List Tx.Node} (h : ∀ n ∈ r.head?, n.depth < d) : growV f d r = ([], r) := by
 cases f with
 | zero => rfl
 | succ f =>
  cases r with
  | nil => rfl
  | cons n r =>
   have : n.depth < d := h n rfl
   unfold growV
   rw [if_neg (by omega)]
theorem grow_flat : ∀ (f : Nat) (d : Int) (xs : List Item) (r : List Tx.Node), sizeL xs < f → (∀ n ∈ r.head?, n.depth < d) → growV f d (flatL d xs ++ r) = (eraL d xs, r) := by
 intro f
 induction f with
 | zero => intro d xs r h; omega
 | succ f ih =>
  intro d xs r h hr
  cases xs with
  | nil =>
   rw [flatL, eraL, List.nil_append]
   exact grow_stop hr
  | cons x xs =>
   obtain ⟨n, c, p, ks⟩ := x
   rw [sizeL, sizeI] at h
   rw [flatL, flatI, eraL, eraI, List.cons_append, List.cons_append, List.append_assoc]
   unfold growV
   have h1 : growV f (d + 1) (flatL (d + 1) ks ++ (flatL d xs ++ r)) = (eraL (d + 1) ks, flatL d xs ++ r) := by
    refine ih (d + 1) ks _ (by omega) fun m hm => ?_
    cases xs with
    | nil =>
     rw [flatL, List.nil_append] at hm
     have := hr m hm
     omega
    | cons y ys =>
     obtain ⟨n', c', p', ks'⟩ := y
     rw [flatL, flatI] at hm
     simp only [List.cons_append, List.head?_cons, Option.mem_some_iff] at hm
     subst hm
     show d < d + 1
     omega
   have h2 : growV f d (flatL d xs ++ r) = (eraL d xs, r) := ih d xs r (by omega) hr
   rw [if_pos (Int.le_refl d), h1, h2]
def codeAt (l : Sg.SList) (k : Int) : List UInt8 := match l.signs[k.toNat]? with
 | some s => s.code.data.toList
 | none => []
mutual
def resI (f : List UInt8 → Int) : Item → Item
 | .mk n c p ks => .mk (if n.kind = 1 then { n with sign := f c } else n) c p (resL f ks)
def resL (f : List UInt8 → Int) : List Item → List Item
 | [] => []
 | x :: xs => resI f x :: resL f xs
end
mutual
def nameI (l : Sg.SList) : Item → Item
 | .mk n _ _ ks => .mk n (codeAt l n.sign) 0 (nameL l ks)
def nameL (l : Sg.SList) : List Item → List Item
 | [] => []
 | x :: xs => nameI l x :: nameL l xs
end
theorem un_nil (c : UInt8) (b : Bool) : unL c b [] = [] := by rw [unL]
mutual
theorem un_back {l : Sg.SList} {f : List UInt8 → Int} (d : Int) (b : Bool) : ∀ x : Item, (∀ q ∈ codesI x, codeAt l (f q.1) = q.1) → unI b (nameI l (eraI d (resI f x))) = unI b x
 | .mk n c p ks, h => by
  rw [resI, eraI, nameI, un_mk, un_mk]
  by_cases h1 : n.kind = 1
  ·have hc : codeAt l (f c) = c := h (c, p) (by rw [codesI, if_pos h1]; simp)
   simp only [h1, if_true]
   show leafU true _ (codeAt l (f c)) = _
   rw [hc]
   rfl
  ·have hk : ∀ q ∈ codesL ks, codeAt l (f q.1) = q.1 := fun q hq => h q (by rw [codesI, if_neg h1]; simpa using hq)
   simp only [h1, if_false]
   by_cases h6 : n.kind = 6
   ·simp only [h6, if_true]
    rfl
   ·simp only [h6, if_false]
    rw [un_backL (l := l) (f := f) (d + 1) (betw n.kind) (decide (n.kind = 2)) ks hk]
theorem un_backL {l : Sg.SList} {f : List UInt8 → Int} (d : Int) (c : UInt8) (b : Bool) : ∀ xs : List Item, (∀ q ∈ codesL xs, codeAt l (f q.1) = q.1) → unL c b (nameL l (eraL d (resL f xs))) = unL c b xs
 | [], _ => by rw [resL, eraL, nameL]
 | x :: xs, h => by
  rw [resL, eraL, nameL, un_two, un_two, un_back (l := l) (f := f) d b x fun q hq => h q (by rw [codesL]; simp [hq]), un_backR (l := l) (f := f) d c b xs fun q hq => h q (by rw [codesL]; simp [hq])]
theorem un_backR {l : Sg.SList} {f : List UInt8 → Int} (d : Int) (c : UInt8) (b : Bool) : ∀ xs : List Item, (∀ q ∈ codesL xs, codeAt l (f q.1) = q.1) → unR c b (nameL l (eraL d (resL f xs))) = unR c b xs
 | [], _ => by rw [resL, eraL, nameL]
 | x :: xs, h => by
  rw [resL, eraL, nameL, un_more, un_more, un_back (l := l) (f := f) d b x fun q hq => h q (by rw [codesL]; simp [hq]), un_backR (l := l) (f := f) d c b xs fun q hq => h q (by rw [codesL]; simp [hq])]
end
mutual
theorem ut_back {l : Sg.SList} {f : List UInt8 → Int} (d : Int) : ∀ x : Item, (∀ q ∈ codesI x, codeAt l (f q.1) = q.1) → utI (nameI l (eraI d (resI f x))) = utI x
 | .mk n c p ks, h => by
  rw [resI, eraI, nameI, ut_mk, ut_mk]
  by_cases h1 : n.kind = 1
  ·have hc : codeAt l (f c) = c := h (c, p) (by rw [codesI, if_pos h1]; simp)
   simp only [h1, if_true]
   show leafU false _ (codeAt l (f c)) = _
   rw [hc]
   rfl
  ·have hk : ∀ q ∈ codesL ks, codeAt l (f q.1) = q.1 := fun q hq => h q (by rw [codesI, if_neg h1]; simpa using hq)
   simp only [h1, if_false]
   by_cases h6 : n.kind = 6
   ·simp only [h6, if_true]
   ·simp only [h6, if_false]
    rw [ut_backL (l := l) (f := f) (d + 1) ks hk]
theorem ut_backL {l : Sg.SList} {f : List UInt8 → Int} (d : Int) : ∀ xs : List Item, (∀ q ∈ codesL xs, codeAt l (f q.1) = q.1) → utL (nameL l (eraL d (resL f xs))) = utL xs
 | [], _ => by rw [resL, eraL, nameL]
 | x :: xs, h => by
  rw [resL, eraL, nameL, utL, utL, ut_back (l := l) (f := f) d x fun q hq => h q (by rw [codesL]; simp [hq]), ut_backR (l := l) (f := f) d xs fun q hq => h q (by rw [codesL]; simp [hq])]
theorem ut_backR {l : Sg.SList} {f : List UInt8 → Int} (d : Int) : ∀ xs : List Item, (∀ q ∈ codesL xs, codeAt l (f q.1) = q.1) → utR (nameL l (eraL d (resL f xs))) = utR xs
 | [], _ => by rw [resL, eraL, nameL]
 | x :: xs, h => by
  rw [resL, eraL, nameL, utR, utR, ut_back (l := l) (f := f) d x fun q hq => h q (by rw [codesL]; simp [hq]), ut_backR (l := l) (f := f) d xs fun q hq => h q (by rw [codesL]; simp [hq])]
end
def writeV (kind : Int) (l : Sg.SList) (ns : List Tx.Node) : List UInt8 :=
 if kind = 1 then unL 45 false (nameL l (growV (ns.length + 1) 0 ns).1) else utL (nameL l (growV (ns.length + 1) 0 ns).1)
mutual
theorem size_res (f : List UInt8 → Int) : ∀ x : Item, sizeI (resI f x) = sizeI x
 | .mk n c p ks => by rw [resI, sizeI, sizeI, size_resL f ks]
theorem size_resL (f : List UInt8 → Int) : ∀ xs : List Item, sizeL (resL f xs) = sizeL xs
 | [] => by rw [resL]
 | x :: xs => by rw [resL, sizeL, sizeL, size_res f x, size_resL f xs]
end
theorem one_way {kind : Int} (hk : kind = 1 ∨ kind = 2) {s : List UInt8} {l : Sg.SList} {f : List UInt8 → Int} {xs : List Item} {k : Nat} (h : parseG s kind = .ok xs k) (hc : ∀ q ∈ codesL xs, codeAt l (f q.1) = q.1) : writeV kind l (flatL 0 (resL f xs)) = s := by
 have hg := grow_flat ((flatL 0 (resL f xs)).length + 1) 0 (resL f xs) [] (by rw [flatL_len]; omega) (fun n hn => by cases hn)
 rw [List.append_nil] at hg
 unfold writeV
 rw [hg]
 rcases hk with rfl | rfl
 ·rw [if_pos rfl, un_backL 0 45 false xs hc]
  exact line_way h
 ·rw [if_neg (by decide), ut_backL 0 xs hc]
  exact tree_way h
end Cd
namespace Cd
open Go
def stops : Nat → List UInt8
 | 0 => [38, 42, 58, 45, 62, 93, 59, 41, 32]
 | 1 => [42, 58, 45, 62, 93, 59, 41, 32]
 | 2 => [58, 45, 62, 93, 59, 41, 32]
 | _ => [45, 62, 93, 59, 41, 32]
def St (n : Nat) (r : List UInt8) : Prop := ∀ c ∈ r.head?, c ∈ stops n
structure CodeOk (c : List UInt8) : Prop where
 len : c.length ≤ 8
 head : ∃ u w, c = u :: w ∧ upperB u = true ∧ ∀ b ∈ w, wordB b = true
section
variable {s : List UInt8}
theorem St.up {n m : Nat} {r : List UInt8} (h : St n r) (hs : ∀ c ∈ stops n, c ∈ stops m) : St m r := fun c hc => hs c (h c hc)
theorem St.cons {n : Nat} {c : UInt8} {r : List UInt8} (h : c ∈ stops n) : St n (c :: r) := fun b hb => by
 simp at hb
 subst hb
 exact h
end
end Cd
namespace Cd
open Go
section
variable {s : List UInt8}
end
end Cd
namespace Cd
open Go
section
variable {s : List UInt8}
def Stt (r : List UInt8) : Prop := ∀ c ∈ r.head?, c = 32 ∨ c = 41
theorem Stt.st {r : List UInt8} (h : Stt r) : St 0 r := fun c hc => by
 rcases h c hc with rfl | rfl <;> decide
theorem ut_nil : utL [] = [] := by rw [utL]
end
end Cd
namespace Cd
open Go
open Tx
mutual
def RepI (ns : List Tx.Node) (d : Int) (i : Nat) : Item → Prop
 | .mk n _ _ ks => i < ns.length ∧ n = nd ns i ∧ dp ns i = d ∧ RepL ns (d + 1) (i + 1) (endV ns i) ks
def RepL (ns : List Tx.Node) (d : Int) (i j : Nat) : List Item → Prop
 | [] => i = j
 | x :: xs => RepI ns d i x ∧ RepL ns d (endV ns i) j xs
end
theorem nd_at {ns : List Tx.Node} {i : Nat} (h : i < ns.length) : ns.drop i = nd ns i :: ns.drop (i + 1) := by
 rw [List.drop_eq_getElem_cons h]
 congr 1
 unfold nd
 rw [List.getElem?_eq_getElem h]
 rfl
theorem grow_rep {ns : List Tx.Node} (hd : Deep ns) : ∀ (f : Nat) (d : Int) (i : Nat), ns.length - i < f → i ≤ ns.length → (i < ns.length → dp ns i ≤ d) →
  ∃ j, (growV f d (ns.drop i)).2 = ns.drop j ∧ i ≤ j ∧ j ≤ ns.length ∧ RepL ns d i j (growV f d (ns.drop i)).1 ∧ (j < ns.length → dp ns j < d) ∧ ∀ k, i ≤ k → k < j → d ≤ dp ns k := by
 intro f
 induction f with
 | zero => intro d i h; omega
 | succ f ih =>
  intro d i hf hi h0
  by_cases hlt : i < ns.length
  ·have hn := nd_at hlt
   have hdp : (nd ns i).depth = dp ns i := rfl
   rw [hn]
   unfold growV
   by_cases hle : d ≤ dp ns i
   ·rw [hdp, if_pos hle]
    have hde : dp ns i = d := by have := h0 hlt; omega
    obtain ⟨j1, a1, a2, a3, a4, a5, a6⟩ := ih (d + 1) (i + 1) (by omega) (by omega) (fun q => by have := hd.step i q; omega)
    have hend : endV ns i = j1 := end_eq (by omega) (fun k b1 b2 => by have := a6 k (by omega) b2; omega) (by
     rcases Nat.lt_or_ge j1 ns.length with q | q
     ·exact .inr ⟨q, by have := a5 q; omega⟩
     ·exact .inl (by omega))
    obtain ⟨j, b1, b2, b3, b4, b5, b6⟩ := ih d j1 (by omega) a3 (fun q => by have := a5 q; omega)
    simp only [a1]
    refine ⟨j, b1, by omega, b3, ?_, b5, fun k c1 c2 => ?_⟩
    ·rw [RepL, RepI, hend]
     exact ⟨⟨hlt, rfl, hde, a4⟩, b4⟩
    ·by_cases e : k = i
     ·subst e; omega
     ·by_cases e2 : k < j1
      ·have := a6 k (by omega) e2; omega
      ·exact b6 k (by omega) c2
   ·rw [hdp, if_neg hle]
    exact ⟨i, hn.symm, Nat.le_refl _, hi, by rw [RepL], fun _ => by omega, fun k c1 c2 => by omega⟩
  ·have : ns.drop i = [] := List.drop_eq_nil_of_le (by omega)
   rw [this]
   exact ⟨i, this.symm, Nat.le_refl _, hi, by unfold growV; rw [RepL], fun q => absurd q hlt, fun k c1 c2 => by omega⟩
theorem grow_all {ns : List Tx.Node} (hd : Deep ns) : RepL ns 0 0 ns.length (growV (ns.length + 1) 0 ns).1 := by
 obtain ⟨j, -, -, h3, h4, h5, -⟩ := grow_rep hd (ns.length + 1) 0 0 (by omega) (by omega) (fun q => by rw [hd.first q]; exact Int.le_refl _)
 rw [List.drop_zero] at h4
 have : j = ns.length := by
  rcases Nat.lt_or_ge j ns.length with q | q
  ·have a := h5 q
   have b := hd.pos j q
   omega
  ·omega
 rw [this] at h4
 exact h4
mutual
theorem flat_repI {ns : List Tx.Node} (d : Int) : ∀ (x : Item) (i : Nat), RepI ns d i x → flatI d x ++ ns.drop (endV ns i) = ns.drop i
 | .mk n c p ks, i, h => by
  rw [RepI] at h
  obtain ⟨h1, h2, h3, h4⟩ := h
  have := flat_repL (ns := ns) (d + 1) ks (i + 1) (endV ns i) h4
  rw [flatI, List.cons_append, this, nd_at h1, ← h2]
  congr 1
  have hdn : n.depth = d := by rw [h2]; exact h3
  rw [← hdn]
theorem flat_repL {ns : List Tx.Node} (d : Int) : ∀ (xs : List Item) (i j : Nat), RepL ns d i j xs → flatL d xs ++ ns.drop j = ns.drop i
 | [], i, j, h => by
  rw [RepL] at h
  rw [flatL, h]
  rfl
 | x :: xs, i, j, h => by
  rw [RepL] at h
  have h1 := flat_repI (ns := ns) d x i h.1
  have h2 := flat_repL (ns := ns) d xs (endV ns i) j h.2
  rw [flatL, List.append_assoc, h2, h1]
end
theorem flat_grow {ns : List Tx.Node} (hd : Deep ns) : flatL 0 (growV (ns.length + 1) 0 ns).1 = ns := by
 have := flat_repL 0 _ 0 ns.length (grow_all hd)
 rw [List.drop_length, List.append_nil, List.drop_zero] at this
 exact this
def places (ns : List Tx.Node) : Nat → List Item → List Nat
 | _, [] => []
 | i, _ :: xs => i :: places ns (endV ns i) xs
end Cd
namespace Lx
open Go



def more (f : Form) (c : Nat) : Form := ⟨f.entry, f.ending, f.clitics ++ [(c : Int)]⟩
structure OnWay (g f : Form) (c : Nat) : Prop where
 ent : f.entry = g.entry
 fin : f.ending = g.ending
 ex : ∃ m, m ≤ g.clitics.length ∧ f.clitics = g.clitics.take m ∧ ∀ j a, m ≤ j → g.clitics[j]? = some a → (c : Int) ≤ a
end Lx
namespace Lx
open Go


structure OnF (x : Lexicon) (s : ByteArray) (i k c : Nat) (f : Form) : Prop where
 ent : f.entry = (i : Int)
 fin : f.ending = (k : Int) - 1
 val : formV x f = 0
 low : ∀ a ∈ f.clitics, a < (c : Int)
 way : ∀ g, formV x g = 0 → glossV x g = s → g.entry = (i : Int) → g.ending = (k : Int) - 1 → OnWay g f c
theorem OnF.few {x : Lexicon} {s : ByteArray} {i k c : Nat} {f : Form} (h : OnF x s i k c f) : f.clitics.length ≤ 3 := (valid_of h.val).few
end Lx
namespace Lx
end Lx
namespace Sg
open Go

structure VV where
 kind : Int
 text : List UInt8
 lo : Int
 hi : Int
end Sg
namespace Sg
open Go
def bs (l : List UInt8) : ByteArray := ⟨l.toArray⟩
def VV.value (v : VV) : Value := ⟨v.kind, bs v.text, v.lo, v.hi⟩


end Sg
namespace Sg
open Go
end Sg
namespace Sg
open Go
theorem check_sign {l : SList} (h : checkV l = 0) : (1 ≤ l.periods ∧ l.periods ≤ 9) ∧ l.signs.length ≤ 200 ∧ ∀ (i : Nat) (s : Sign), l.signs[i]? = some s → signV l.periods (l.signs.take i) s = 0 := by
 unfold checkV at h
 split at h
 ·cases h
 ·split at h
  ·cases h
  ·refine ⟨by omega, by omega, fun i s hs => ?_⟩
   have := firstE_ne h i (List.getElem?_eq_some_iff.1 hs).1
   rwa [signAt, hs] at this
theorem sign_parts {p : Int} {b : List Sign} {s : Sign} (h : signV p b s = 0) : codeB s.code = true ∧ b.any (fun t => decide (t.code = s.code)) = false ∧ ¬ sizeBad s ∧ s.values.length ≤ 12 ∧ valuesV p s.values = 0 := by
 unfold signV at h
 split at h
 ·cases h
 ·rename_i h1
  rw [not_or] at h1
  unfold bodyV at h
  split at h
  ·cases h
  ·split at h
   ·cases h
   ·exact ⟨by simpa using h1.1, by simpa using h1.2, by assumption, by omega, h⟩
theorem value_at {p : Int} {l : List Value} (h : valuesV p l = 0) {k : Nat} {v : Value} (hv : l[k]? = some v) : (1 ≤ v.kind ∧ v.kind ≤ 3 ∧ textB v.kind v.text = true) ∧ (1 ≤ v.lo ∧ v.lo ≤ v.hi ∧ v.hi ≤ p) ∧ (l.take k).any (meetB v) = false := by
 have h0 := firstE_ne h k (List.getElem?_eq_some_iff.1 hv).1
 rw [valueAt, hv] at h0
 simp only at h0
 unfold valueV at h0
 split at h0
 ·cases h0
 ·split at h0
  ·cases h0
  ·split at h0
   ·cases h0
   ·rename_i a b c
    rw [not_or, not_or] at a b
    exact ⟨⟨by omega, by omega, by simpa using a.2.2⟩, ⟨by omega, by omega, by omega⟩, by simpa using c⟩
end Sg
namespace Sg
open Go

structure VFine (v : Value) : Prop where
 k : v.kind = 1 ∨ v.kind = 2 ∨ v.kind = 3
 t : textB v.kind v.text = true
 lo : 1 ≤ v.lo ∧ v.lo ≤ 9
 hi : 1 ≤ v.hi ∧ v.hi ≤ 9
structure SFine (s : Sign) : Prop where
 c : codeB s.code = true
 w : 1 ≤ s.wide ∧ s.wide ≤ 12
 h : 1 ≤ s.high ∧ s.high ≤ 12
 n : s.values.length ≤ 12
 vs : ∀ v ∈ s.values, VFine v
theorem fineS {l : SList} (h : checkV l = 0) : (1 ≤ l.periods ∧ l.periods ≤ 9) ∧ l.signs.length ≤ 200 ∧ ∀ s ∈ l.signs, SFine s := by
 obtain ⟨h1, h2, h3⟩ := check_sign h
 refine ⟨h1, h2, fun s hs => ?_⟩
 obtain ⟨i, hi⟩ := List.getElem?_of_mem hs
 obtain ⟨a, -, c, d, e⟩ := sign_parts (h3 i s hi)
 unfold sizeBad at c
 refine ⟨a, by omega, by omega, d, fun v hv => ?_⟩
 obtain ⟨k, hk⟩ := List.getElem?_of_mem hv
 obtain ⟨⟨v1, v2, v3⟩, ⟨v4, v5, v6⟩, -⟩ := value_at e hk
 exact ⟨by omega, v3, by omega, by omega⟩
theorem code_all {t : ByteArray} (h : codeB t = true) : (∀ b ∈ t.data.toList, alnum b = true) ∧ t.data.toList ≠ [] ∧ t.size ≤ 8 := by
 unfold codeB at h
 simp only [Bool.and_eq_true, decide_eq_true_eq] at h
 obtain ⟨⟨⟨h1, h2⟩, -⟩, h3⟩ := h
 have hlen : t.data.toList.length = t.size := rfl
 exact ⟨fun b hb => List.all_eq_true.1 h3 b hb, fun e => by rw [e] at hlen; simp at hlen; omega, h2⟩
end Sg
