/- The two codes of a text: one grammar for the program's reader and for the document's: plain.; What is read is what is written: plain law of the two codes.; Items and nodes: from one to the other and back; a text that was read is written as it was: plain.; What is written is read as it was: plain law of the line code.; A text that is written in the line code is read as it was: plain law.; A text .. -/
import Derived.Test.YtenmkbpdkfhbjaaRbTxPlain
import Derived.Test.YtenmkbpdkfhbjaaRbFmtPlain
namespace Cd
open Go
inductive Item where
  | mk (n : Tx.Node) (code : List UInt8) (at_ : Nat) (kids : List Item)
def Item.node : Item → Tx.Node | .mk n _ _ _ => n
def Item.code : Item → List UInt8 | .mk _ c _ _ => c
def Item.pos : Item → Nat | .mk _ _ p _ => p
def Item.kids : Item → List Item | .mk _ _ _ k => k
/-- what a reader finds: the place where it cannot go on, or a thing and the place behind it -/
inductive R (α : Type) where
  | bad (k : Nat)
  | ok (x : α) (k : Nat)
def R.bind {α β : Type} (r : R α) (f : α → Nat → R β) : R β := match r with
  | .bad k => .bad k
  | .ok x k => f x k
def kindN (k : Int) : Tx.Node := ⟨k, 0, 0, 0, false, 0, 0, 0⟩
def gapN (a b : Int) : Tx.Node := ⟨6, 0, 0, 0, false, 0, a, b⟩
def glyphN (turn : Int) (m : Bool) (st : Int) : Tx.Node := ⟨1, 0, 0, turn, m, st, 0, 0⟩
section
variable (s : List UInt8)
def sees (k : Nat) (c : UInt8) : Bool := decide (s[k]? = some c)
def must (k : Nat) (c : UInt8) : R Unit := if sees s k c = true then .ok () (k + 1) else .bad k
def digitG (lo hi : UInt8) (k : Nat) : R Int := match s[k]? with
  | some c => if lo ≤ c ∧ c ≤ hi then .ok ((c.toNat : Int) - 48) (k + 1) else .bad k
  | none => .bad k
def upperB (c : UInt8) : Bool := decide (65 ≤ c ∧ c ≤ 90)
def wordB (c : UInt8) : Bool := upperB c || decide (97 ≤ c ∧ c ≤ 122) || decide (48 ≤ c ∧ c ≤ 57)
/-- the end of a code that begins at k: at most eight bytes -/
def codeEnd (k : Nat) : Nat := k + 1 + (((s.drop (k + 1)).take 7).takeWhile wordB).length
def stateOf (o : Option UInt8) : Int := if o = some 35 then 1 else if o = some 61 then 2 else if o = some 33 then 3 else 0
def turnG (k : Nat) : R Int := if sees s k 47 = true then digitG s 49 51 (k + 1) else .ok 0 k
/-- a sign; line: the line code, which has states -/
def glyphG (line : Bool) (k : Nat) : R Item := match s[k]? with
  | some c =>
    if upperB c = true then
      let e := codeEnd s k
      let m := sees s e 92
      let e1 := if m = true then e + 1 else e
      (turnG s e1).bind fun t e2 =>
        let st := if line = true then stateOf s[e2]? else 0
        .ok (.mk (glyphN t m st) ((s.drop k).take (e - k)) k []) (if st = 0 then e2 else e2 + 1)
    else .bad k
  | none => .bad k
def leafG (k : Nat) : R Item :=
  if sees s k 123 = true then
    (digitG s 48 57 (k + 1)).bind fun a k1 => (must s k1 45).bind fun _ k2 => (digitG s 48 57 k2).bind fun b k3 => (must s k3 125).bind fun _ k4 => .ok (.mk (gapN a b) [] 0 []) k4
  else glyphG s true k
/-- things with a byte between them, one at least -/
def sepG (p : Nat → R Item) (c : UInt8) : Nat → Nat → R (List Item)
  | 0, k => .bad k
  | n + 1, k => (p k).bind fun x k1 => if sees s k1 c = true then (sepG p c n (k1 + 1)).bind fun xs k2 => .ok (x :: xs) k2 else .ok [x] k1
def one (kind : Int) : List Item → Item
  | [x] => x
  | xs => .mk (kindN kind) [] 0 xs
def N : Nat := s.length + 1
def besideG (ov : Nat → R (Item × Bool)) (k : Nat) : R Item :=
  (ov k).bind fun x k1 => if x.2 = true ∧ sees s k1 42 = false then .bad k1
    else if sees s k1 42 = true then (sepG s (fun j => (ov j).bind fun y j1 => .ok y.1 j1) 42 (N s) (k1 + 1)).bind fun xs k2 => .ok (one 2 (x.1 :: xs)) k2
    else .ok x.1 k1
def aboveG (ov : Nat → R (Item × Bool)) (within : Bool) (k : Nat) : R Item :=
  (besideG s ov k).bind fun x k1 => if within = true ∧ sees s k1 58 = false then .bad k1
    else if sees s k1 58 = true then (sepG s (besideG s ov) 58 (N s) (k1 + 1)).bind fun xs k2 => .ok (one 3 (x :: xs)) k2
    else .ok x k1
/-- a leaf, two of them, or a column in parentheses; f: how often parentheses may still open -/
def overG : Nat → Nat → R (Item × Bool)
  | 0, k => .bad k
  | f + 1, k => if sees s k 40 = true then (aboveG s (overG f) true (k + 1)).bind fun x k1 => (must s k1 41).bind fun _ k2 => .ok (x, true) k2
    else (leafG s k).bind fun x k1 => if sees s k1 38 = true then (leafG s (k1 + 1)).bind fun y k2 => .ok (.mk (kindN 4) [] 0 [x, y], false) k2 else .ok (x, false) k1
def partG (k : Nat) : R Item :=
  if sees s k 91 = true then (sepG s (aboveG s (overG s (N s)) false) 59 (N s) (k + 1)).bind fun xs k1 => (must s k1 93).bind fun _ k2 => .ok (.mk (kindN 7) [] 0 xs) k2
  else aboveG s (overG s (N s)) false k
def groupG (k : Nat) : R Item :=
  if sees s k 60 = true then (sepG s (partG s) 45 (N s) (k + 1)).bind fun xs k1 => (must s k1 62).bind fun _ k2 => .ok (.mk (kindN 5) [] 0 xs) k2
  else partG s k
/-- the words of the tree code -/
def wordOf (k : Int) : List UInt8 := if k = 2 then [98, 101, 115, 105, 100, 101] else if k = 3 then [97, 98, 111, 118, 101] else if k = 4 then [111, 118, 101, 114] else if k = 5 then [114, 105, 110, 103] else [104, 111, 110, 111, 117, 114]
def commonL : List UInt8 → List UInt8 → Nat
  | a :: l, b :: m => if a = b then commonL l m + 1 else 0
  | _, _ => 0
def kindAt (o : Option UInt8) : Int := if o = some 98 then 2 else if o = some 97 then 3 else if o = some 111 then 4 else if o = some 114 then 5 else if o = some 104 then 7 else 0
def wordG (k : Nat) : R Int :=
  let q := kindAt s[k]?
  if q = 0 then .bad k else if commonL (s.drop k) (wordOf q) = (wordOf q).length then .ok q (k + (wordOf q).length) else .bad (k + commonL (s.drop k) (wordOf q))
def treeG : Nat → Nat → R Item
  | 0, k => .bad k
  | f + 1, k => if sees s k 63 = true then
      let n := ((s.drop k).takeWhile fun c => decide (c = 63)).length
      .ok (.mk (gapN n n) [] 0 []) (k + n)
    else if sees s k 40 = true then (wordG s (k + 1)).bind fun q k1 => (must s k1 32).bind fun _ k2 => (sepG s (treeG f) 32 (N s) k2).bind fun xs k3 => (must s k3 41).bind fun _ k4 => .ok (.mk (kindN q) [] 0 xs) k4
    else glyphG s false k
/-- a whole string: the items, or the place where it goes on wrongly -/
def parseG (kind : Int) : R (List Item) :=
  if s = [] then .ok [] 0
  else (if kind = 1 then sepG s (groupG s) 45 (N s) 0 else sepG s (treeG s (N s)) 32 (N s) 0).bind fun xs k => if k < s.length then .bad k else .ok xs k
end
mutual
/-- the nodes of an item, in preorder -/
def flatI (d : Int) : Item → List Tx.Node
  | .mk n _ _ ks => { n with depth := d } :: flatL (d + 1) ks
def flatL (d : Int) : List Item → List Tx.Node
  | [] => []
  | x :: xs => flatI d x ++ flatL d xs
end
def deeper (e : Int) (n : Tx.Node) : Tx.Node := { n with depth := n.depth + e }
mutual
/-- the codes of the signs and where they begin, in the order in which they are read -/
def codesI : Item → List (List UInt8 × Nat)
  | .mk n c p ks => (if n.kind = 1 then [(c, p)] else []) ++ codesL ks
def codesL : List Item → List (List UInt8 × Nat)
  | [] => []
  | x :: xs => codesI x ++ codesL xs
end
end Cd
namespace Cd
open Go
def leafU (line : Bool) (n : Tx.Node) (c : List UInt8) : List UInt8 :=
  c ++ (if n.mirror = true then [92] else []) ++ (if 0 < n.turn then 47 :: Lib.itoa n.turn else []) ++ (if line = true then (if n.state = 1 then [35] else if n.state = 2 then [61] else if n.state = 3 then [33] else []) else [])
def gapU (n : Tx.Node) : List UInt8 := 123 :: (Lib.itoa n.lo ++ 45 :: (Lib.itoa n.hi ++ [125]))
def betw (k : Int) : UInt8 := if k = 4 then 38 else if k = 2 then 42 else if k = 3 then 58 else if k = 5 then 45 else 59
def openU (inB : Bool) (k : Int) : List UInt8 := if k = 3 then (if inB = true then [40] else []) else if k = 5 then [60] else if k = 7 then [91] else []
def shutU (inB : Bool) (k : Int) : List UInt8 := if k = 3 then (if inB = true then [41] else []) else if k = 5 then [62] else if k = 7 then [93] else []
mutual
/-- an item in the line code; inB: within a row -/
def unI (inB : Bool) : Item → List UInt8
  | .mk n c _ ks => if n.kind = 1 then leafU true n c else if n.kind = 6 then gapU n else openU inB n.kind ++ (unL (betw n.kind) (decide (n.kind = 2)) ks ++ shutU inB n.kind)
def unL (c : UInt8) (inB : Bool) : List Item → List UInt8
  | [] => []
  | x :: xs => unI inB x ++ unR c inB xs
def unR (c : UInt8) (inB : Bool) : List Item → List UInt8
  | [] => []
  | x :: xs => c :: (unI inB x ++ unR c inB xs)
end
mutual
/-- an item in the tree code -/
def utI : Item → List UInt8
  | .mk n c _ ks => if n.kind = 1 then leafU false n c else if n.kind = 6 then List.replicate n.hi.toNat 63 else 40 :: (wordOf n.kind ++ 32 :: (utL ks ++ [41]))
def utL : List Item → List UInt8
  | [] => []
  | x :: xs => utI x ++ utR xs
def utR : List Item → List UInt8
  | [] => []
  | x :: xs => 32 :: (utI x ++ utR xs)
end
section
variable {s : List UInt8}
/-- the bytes u stand from k to k' -/
def Rd (s : List UInt8) (k : Nat) (u : List UInt8) (k' : Nat) : Prop := s.drop k = u ++ s.drop k'
theorem Rd.nil (k : Nat) : Rd s k [] k := rfl
theorem Rd.trans {k k1 k2 : Nat} {u v : List UInt8} (h : Rd s k u k1) (h' : Rd s k1 v k2) : Rd s k (u ++ v) k2 := by
  unfold Rd at h h' ⊢
  rw [h, h', List.append_assoc]
theorem un_mk (b : Bool) (n : Tx.Node) (c : List UInt8) (p : Nat) (ks : List Item) : unI b (.mk n c p ks) = if n.kind = 1 then leafU true n c else if n.kind = 6 then gapU n else openU b n.kind ++ (unL (betw n.kind) (decide (n.kind = 2)) ks ++ shutU b n.kind) := by rw [unI]
theorem un_two (c : UInt8) (b : Bool) (x : Item) (xs : List Item) : unL c b (x :: xs) = unI b x ++ unR c b xs := by rw [unL]
theorem un_more (c : UInt8) (b : Bool) (x : Item) (xs : List Item) : unR c b (x :: xs) = c :: (unI b x ++ unR c b xs) := by rw [unR]
theorem un_none (c : UInt8) (b : Bool) : unR c b [] = [] := by rw [unR]
theorem ut_mk (n : Tx.Node) (c : List UInt8) (p : Nat) (ks : List Item) : utI (.mk n c p ks) = if n.kind = 1 then leafU false n c else if n.kind = 6 then List.replicate n.hi.toNat 63 else 40 :: (wordOf n.kind ++ 32 :: (utL ks ++ [41])) := by rw [utI]
end
end Cd
namespace Cd
open Go
/-- items of the nodes from a depth on, and the nodes that are left -/
def growV : Nat → Int → List Tx.Node → List Item × List Tx.Node
  | 0, _, l => ([], l)
  | _ + 1, _, [] => ([], [])
  | f + 1, d, n :: l => if d ≤ n.depth then (Item.mk n [] 0 (growV f (d + 1) l).1 :: (growV f d (growV f (d + 1) l).2).1, (growV f d (growV f (d + 1) l).2).2) else ([], n :: l)
mutual
def sizeI : Item → Nat
  | .mk _ _ _ ks => sizeL ks + 1
def sizeL : List Item → Nat
  | [] => 0
  | x :: xs => sizeI x + sizeL xs
end
mutual
theorem flatI_len (d : Int) : ∀ x : Item, (flatI d x).length = sizeI x
  | .mk n c p ks => by rw [flatI, sizeI, List.length_cons, flatL_len (d + 1) ks]
theorem flatL_len (d : Int) : ∀ xs : List Item, (flatL d xs).length = sizeL xs
  | [] => by rw [flatL, sizeL]; rfl
  | x :: xs => by rw [flatL, sizeL, List.length_append, flatI_len d x, flatL_len d xs]
end
theorem grow_nil (f : Nat) (d : Int) : growV f d [] = ([], []) := by cases f <;> rfl
theorem grow_stop {f : Nat} {d : Int} {r : List Tx.Node} (h : ∀ n ∈ r.head?, n.depth < d) : growV f d r = ([], r) := by
  cases f with
  | zero => rfl
  | succ f =>
    cases r with
    | nil => rfl
    | cons n r =>
      have : n.depth < d := h n rfl
      unfold growV
      rw [if_neg (by omega)]
/-- the codes of the signs -/
def codeAt (l : Sg.SList) (k : Int) : List UInt8 := match l.signs[k.toNat]? with
  | some s => s.code.data.toList
  | none => []
mutual
/-- signs found by their codes -/
def resI (f : List UInt8 → Int) : Item → Item
  | .mk n c p ks => .mk (if n.kind = 1 then { n with sign := f c } else n) c p (resL f ks)
def resL (f : List UInt8 → Int) : List Item → List Item
  | [] => []
  | x :: xs => resI f x :: resL f xs
end
mutual
/-- items with the codes of their signs, as they are written -/
def nameI (l : Sg.SList) : Item → Item
  | .mk n _ _ ks => .mk n (codeAt l n.sign) 0 (nameL l ks)
def nameL (l : Sg.SList) : List Item → List Item
  | [] => []
  | x :: xs => nameI l x :: nameL l xs
end
theorem un_nil (c : UInt8) (b : Bool) : unL c b [] = [] := by rw [unL]
/-- a text's nodes, written -/
def writeV (kind : Int) (l : Sg.SList) (ns : List Tx.Node) : List UInt8 :=
  if kind = 1 then unL 45 false (nameL l (growV (ns.length + 1) 0 ns).1) else utL (nameL l (growV (ns.length + 1) 0 ns).1)
mutual
theorem size_res (f : List UInt8 → Int) : ∀ x : Item, sizeI (resI f x) = sizeI x
  | .mk n c p ks => by rw [resI, sizeI, sizeI, size_resL f ks]
theorem size_resL (f : List UInt8 → Int) : ∀ xs : List Item, sizeL (resL f xs) = sizeL xs
  | [] => by rw [resL]
  | x :: xs => by rw [resL, sizeL, sizeL, size_res f x, size_resL f xs]
end
end Cd
namespace Cd
open Go
/-- what may stand behind a leaf (0), a pair (1), a row (2), a column (3) -/
def stops : Nat → List UInt8
  | 0 => [38, 42, 58, 45, 62, 93, 59, 41, 32]
  | 1 => [42, 58, 45, 62, 93, 59, 41, 32]
  | 2 => [58, 45, 62, 93, 59, 41, 32]
  | _ => [45, 62, 93, 59, 41, 32]
def St (n : Nat) (r : List UInt8) : Prop := ∀ c ∈ r.head?, c ∈ stops n
/-- a code of a sign -/
structure CodeOk (c : List UInt8) : Prop where
  len : c.length ≤ 8
  head : ∃ u w, c = u :: w ∧ upperB u = true ∧ ∀ b ∈ w, wordB b = true
section
variable {s : List UInt8}
theorem St.up {n m : Nat} {r : List UInt8} (h : St n r) (hs : ∀ c ∈ stops n, c ∈ stops m) : St m r := fun c hc => hs c (h c hc)
theorem St.cons {n : Nat} {c : UInt8} {r : List UInt8} (h : c ∈ stops n) : St n (c :: r) := fun b hb => by
  simp at hb
  subst hb
  exact h
end
end Cd
namespace Cd
open Go
section
variable {s : List UInt8}
end
end Cd
namespace Cd
open Go
section
variable {s : List UInt8}
def Stt (r : List UInt8) : Prop := ∀ c ∈ r.head?, c = 32 ∨ c = 41
theorem Stt.st {r : List UInt8} (h : Stt r) : St 0 r := fun c hc => by
  rcases h c hc with rfl | rfl <;> decide
theorem ut_nil : utL [] = [] := by rw [utL]
end
end Cd
namespace Cd
open Go
open Tx
mutual
/-- the item stands at place i of the nodes, at depth d -/
def RepI (ns : List Tx.Node) (d : Int) (i : Nat) : Item → Prop
  | .mk n _ _ ks => i < ns.length ∧ n = nd ns i ∧ dp ns i = d ∧ RepL ns (d + 1) (i + 1) (endV ns i) ks
/-- the items fill the places from i to j -/
def RepL (ns : List Tx.Node) (d : Int) (i j : Nat) : List Item → Prop
  | [] => i = j
  | x :: xs => RepI ns d i x ∧ RepL ns d (endV ns i) j xs
end
theorem nd_at {ns : List Tx.Node} {i : Nat} (h : i < ns.length) : ns.drop i = nd ns i :: ns.drop (i + 1) := by
  rw [List.drop_eq_getElem_cons h]
  congr 1
  unfold nd
  rw [List.getElem?_eq_getElem h]
  rfl
/-- growing fills the places up to the first node that is less deep -/
theorem grow_rep {ns : List Tx.Node} (hd : Deep ns) : ∀ (f : Nat) (d : Int) (i : Nat), ns.length - i < f → i ≤ ns.length → (i < ns.length → dp ns i ≤ d) →
    ∃ j, (growV f d (ns.drop i)).2 = ns.drop j ∧ i ≤ j ∧ j ≤ ns.length ∧ RepL ns d i j (growV f d (ns.drop i)).1 ∧ (j < ns.length → dp ns j < d) ∧ ∀ k, i ≤ k → k < j → d ≤ dp ns k := by
  intro f
  induction f with
  | zero => intro d i h; omega
  | succ f ih =>
    intro d i hf hi h0
    by_cases hlt : i < ns.length
    · have hn := nd_at hlt
      have hdp : (nd ns i).depth = dp ns i := rfl
      rw [hn]
      unfold growV
      by_cases hle : d ≤ dp ns i
      · rw [hdp, if_pos hle]
        have hde : dp ns i = d := by have := h0 hlt; omega
        obtain ⟨j1, a1, a2, a3, a4, a5, a6⟩ := ih (d + 1) (i + 1) (by omega) (by omega) (fun q => by have := hd.step i q; omega)
        have hend : endV ns i = j1 := end_eq (by omega) (fun k b1 b2 => by have := a6 k (by omega) b2; omega) (by
          rcases Nat.lt_or_ge j1 ns.length with q | q
          · exact .inr ⟨q, by have := a5 q; omega⟩
          · exact .inl (by omega))
        obtain ⟨j, b1, b2, b3, b4, b5, b6⟩ := ih d j1 (by omega) a3 (fun q => by have := a5 q; omega)
        simp only [a1]
        refine ⟨j, b1, by omega, b3, ?_, b5, fun k c1 c2 => ?_⟩
        · rw [RepL, RepI, hend]
          exact ⟨⟨hlt, rfl, hde, a4⟩, b4⟩
        · by_cases e : k = i
          · subst e; omega
          · by_cases e2 : k < j1
            · have := a6 k (by omega) e2; omega
            · exact b6 k (by omega) c2
      · rw [hdp, if_neg hle]
        exact ⟨i, hn.symm, Nat.le_refl _, hi, by rw [RepL], fun _ => by omega, fun k c1 c2 => by omega⟩
    · have : ns.drop i = [] := List.drop_eq_nil_of_le (by omega)
      rw [this]
      exact ⟨i, this.symm, Nat.le_refl _, hi, by unfold growV; rw [RepL], fun q => absurd q hlt, fun k c1 c2 => by omega⟩
theorem grow_all {ns : List Tx.Node} (hd : Deep ns) : RepL ns 0 0 ns.length (growV (ns.length + 1) 0 ns).1 := by
  obtain ⟨j, -, -, h3, h4, h5, -⟩ := grow_rep hd (ns.length + 1) 0 0 (by omega) (by omega) (fun q => by rw [hd.first q]; exact Int.le_refl _)
  rw [List.drop_zero] at h4
  have : j = ns.length := by
    rcases Nat.lt_or_ge j ns.length with q | q
    · have a := h5 q
      have b := hd.pos j q
      omega
    · omega
  rw [this] at h4
  exact h4
mutual
/-- laid flat, they are the nodes again -/
theorem flat_repI {ns : List Tx.Node} (d : Int) : ∀ (x : Item) (i : Nat), RepI ns d i x → flatI d x ++ ns.drop (endV ns i) = ns.drop i
  | .mk n c p ks, i, h => by
    rw [RepI] at h
    obtain ⟨h1, h2, h3, h4⟩ := h
    have := flat_repL (ns := ns) (d + 1) ks (i + 1) (endV ns i) h4
    rw [flatI, List.cons_append, this, nd_at h1, ← h2]
    congr 1
    have hdn : n.depth = d := by rw [h2]; exact h3
    rw [← hdn]
theorem flat_repL {ns : List Tx.Node} (d : Int) : ∀ (xs : List Item) (i j : Nat), RepL ns d i j xs → flatL d xs ++ ns.drop j = ns.drop i
  | [], i, j, h => by
    rw [RepL] at h
    rw [flatL, h]
    rfl
  | x :: xs, i, j, h => by
    rw [RepL] at h
    have h1 := flat_repI (ns := ns) d x i h.1
    have h2 := flat_repL (ns := ns) d xs (endV ns i) j h.2
    rw [flatL, List.append_assoc, h2, h1]
end
theorem flat_grow {ns : List Tx.Node} (hd : Deep ns) : flatL 0 (growV (ns.length + 1) 0 ns).1 = ns := by
  have := flat_repL 0 _ 0 ns.length (grow_all hd)
  rw [List.drop_length, List.append_nil, List.drop_zero] at this
  exact this
/-- where the items of a row stand -/
def places (ns : List Tx.Node) : Nat → List Item → List Nat
  | _, [] => []
  | i, _ :: xs => i :: places ns (endV ns i) xs
end Cd
