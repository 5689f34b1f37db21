/- What the document's reader of a text finds: plain.; A text in memory; groups.end.; The document's reader: its smallest functions. -/
import Derived.Test.YtenmkbpdkfhbjaaGreatRcCdMem
import Derived.Test.YtenmkbpdkfhbjaaGreatRcCdCode
import Derived.Deep.DeepCutAuto
import Derived.BigQuiet
namespace Cd
open Go
def fndV (l : Sg.SList) (c : List UInt8) : Int := if signIx l c = -1 then 0 else signIx l c
def unkS (l : Sg.SList) (u : Int) (q : List UInt8 × Nat) : Int := if u < 0 ∧ signIx l q.1 = -1 then (q.2 : Int) else u
def unkF (l : Sg.SList) (u : Int) (qs : List (List UInt8 × Nat)) : Int := qs.foldl (unkS l) u
theorem unk_append (l : Sg.SList) (u : Int) (a b : List (List UInt8 × Nat)) : unkF l u (a ++ b) = unkF l (unkF l u a) b := List.foldl_append
theorem unk_pos (l : Sg.SList) {u : Int} (h : 0 ≤ u) : ∀ qs, unkF l u qs = u
  | [] => rfl
  | q :: qs => by
    have e : unkF l u (q :: qs) = unkF l (unkS l u q) qs := rfl
    rw [e, show unkS l u q = u from if_neg (by omega)]
    exact unk_pos l h qs
theorem unk_neg (l : Sg.SList) : ∀ qs, unkF l (-1) qs = match unknownV l qs with | some k => (k : Int) | none => -1
  | [] => rfl
  | q :: qs => by
    have e : unkF l (-1) (q :: qs) = unkF l (unkS l (-1) q) qs := rfl
    rw [e]
    unfold unkS unknownV
    by_cases h : signIx l q.1 = -1
    · rw [if_pos ⟨by decide, h⟩, unk_pos l (by omega), List.find?_cons_of_pos (by simpa using h)]
      rfl
    · rw [if_neg (by omega), List.find?_cons_of_neg (by simpa using h)]
      exact unk_neg l qs
mutual
theorem res_knownI {l : Sg.SList} : ∀ x : Item, (∀ q ∈ codesI x, signIx l q.1 ≠ -1) → resI (fndV l) x = resI (signIx l) x
  | .mk n c p ks, h => by
    rw [codesI] at h
    rw [resI, resI, res_knownL ks fun q hq => h q (List.mem_append_right _ hq)]
    congr 1
    split
    · rename_i h1
      rw [if_pos h1] at h
      rw [show fndV l c = signIx l c from if_neg (h (c, p) (by simp))]
    · rfl
theorem res_knownL {l : Sg.SList} : ∀ xs : List Item, (∀ q ∈ codesL xs, signIx l q.1 ≠ -1) → resL (fndV l) xs = resL (signIx l) xs
  | [], _ => by rw [resL, resL]
  | x :: xs, h => by
    rw [codesL] at h
    rw [resL, resL, res_knownI x fun q hq => h q (List.mem_append_left _ hq), res_knownL xs fun q hq => h q (List.mem_append_right _ hq)]
end
theorem unknown_none {l : Sg.SList} {qs : List (List UInt8 × Nat)} (h : unknownV l qs = none) : ∀ q ∈ qs, signIx l q.1 ≠ -1 := by
  unfold unknownV at h
  rw [Option.map_eq_none_iff, List.find?_eq_none] at h
  exact fun q hq => by simpa using h q hq
def nodI (l : Sg.SList) (x : Item) : List Tx.Node := flatI 0 (resI (fndV l) x)
def nodL (l : Sg.SList) (xs : List Item) : List Tx.Node := flatL 0 (resL (fndV l) xs)
theorem nod_nil (l : Sg.SList) : nodL l [] = [] := by unfold nodL; rw [resL, flatL]
theorem nod_cons (l : Sg.SList) (x : Item) (xs : List Item) : nodL l (x :: xs) = nodI l x ++ nodL l xs := by unfold nodL nodI; rw [resL, flatL]
theorem nod_append (l : Sg.SList) : ∀ xs ys : List Item, nodL l (xs ++ ys) = nodL l xs ++ nodL l ys
  | [], ys => by rw [nod_nil]; rfl
  | x :: xs, ys => by rw [List.cons_append, nod_cons, nod_cons, nod_append l xs ys, List.append_assoc]
theorem nod_snoc (l : Sg.SList) (xs : List Item) (x : Item) : nodL l (xs ++ [x]) = nodL l xs ++ nodI l x := by rw [nod_append, nod_cons, nod_nil, List.append_nil]
theorem nod_flat (l : Sg.SList) : ∀ xs : List Item, (xs.map (nodI l)).flatten = nodL l xs
  | [] => by rw [nod_nil]; rfl
  | x :: xs => by rw [List.map_cons, List.flatten_cons, nod_flat l xs, nod_cons]
theorem nod_wrap (l : Sg.SList) {q : Int} (hq : q ≠ 1) (xs : List Item) : nodI l (.mk (kindN q) [] 0 xs) = kindN q :: (nodL l xs).map (deeper 1) := by
  unfold nodI nodL
  rw [resI, flatI, if_neg (show ¬ (kindN q).kind = 1 from hq), ← flatL_shift 0 1]
  rfl
theorem nod_glyph (l : Sg.SList) (t st : Int) (m : Bool) (c : List UInt8) (p : Nat) : nodI l (.mk (glyphN t m st) c p []) = [⟨1, 0, fndV l c, t, m, st, 0, 0⟩] := by
  unfold nodI
  rw [resI, resL, if_pos (show (glyphN t m st).kind = 1 from rfl), flatI, flatL]
  rfl
theorem nod_gap (l : Sg.SList) (a b : Int) (p : Nat) : nodI l (.mk (gapN a b) [] p []) = [gapN a b] := by
  unfold nodI
  rw [resI, resL, if_neg (show ¬ (gapN a b).kind = 1 from (by decide : ¬ (6 : Int) = 1)), flatI, flatL]
  rfl
theorem codes_wrap {q : Int} (hq : q ≠ 1) (xs : List Item) : codesI (.mk (kindN q) [] 0 xs) = codesL xs := by
  rw [codesI, if_neg (show ¬ (kindN q).kind = 1 from hq)]
  rfl
theorem codes_snoc (xs : List Item) (x : Item) : codesL (xs ++ [x]) = codesL xs ++ codesI x := by
  induction xs with
  | nil => rw [List.nil_append, codesL]; show codesI x ++ codesL [] = [] ++ codesI x; rw [show codesL [] = [] from by rw [codesL], List.append_nil, List.nil_append]
  | cons y ys ih => rw [List.cons_append, codesL, codesL, ih, List.append_assoc]
section
variable {s : List UInt8} {p : Nat → R Item} {c : UInt8}
def manyG (s : List UInt8) (ov : Nat → R (Item × Bool)) (k : Nat) : R (Item × Bool) :=
  (besideG s ov k).bind fun x k1 => if sees s k1 58 = true then (cont [x] (restG s (besideG s ov) 58 (N s) k1)).bind fun xs k2 => .ok (.mk (kindN 3) [] 0 xs, true) k2 else .ok (x, false) k1
theorem sep_ne : ∀ (n k : Nat) {xs : List Item} {k1 : Nat}, sepG s p c n k = .ok xs k1 → xs ≠ []
  | 0, k, xs, k1, h => by rw [sepG] at h; cases h
  | n + 1, k, xs, k1, h => by
    rw [sepG] at h
    cases hp : p k with
    | bad j => rw [hp] at h; cases h
    | ok x j =>
      rw [hp] at h
      simp only [R.bind] at h
      split at h
      · cases hq : sepG s p c n (j + 1) with
        | bad _ => rw [hq] at h; cases h
        | ok ys _ => rw [hq] at h; cases h; simp
      · cases h
        simp
theorem one_more (q : Int) {x : Item} {xs : List Item} (h : xs ≠ []) : one q (x :: xs) = .mk (kindN q) [] 0 (x :: xs) := by
  cases xs with
  | nil => exact absurd rfl h
  | cons y ys => rfl
theorem many_above (ov : Nat → R (Item × Bool)) (k : Nat) : aboveG s ov false k = (manyG s ov k).bind fun y k1 => .ok y.1 k1 := by
  unfold aboveG manyG
  cases besideG s ov k with
  | bad j => rfl
  | ok x k1 =>
    simp only [R.bind]
    rw [if_neg (by simp)]
    split
    · rename_i hs
      unfold restG cont
      rw [if_pos hs]
      cases hq : sepG s (besideG s ov) 58 (N s) (k1 + 1) with
      | bad j => rfl
      | ok xs k2 =>
        simp only [R.bind]
        rw [one_more 3 (sep_ne _ _ hq)]
        rfl
    · rfl
theorem many_within (ov : Nat → R (Item × Bool)) (k : Nat) : aboveG s ov true k = (manyG s ov k).bind fun y k1 => if y.2 = true then .ok y.1 k1 else .bad k1 := by
  unfold aboveG manyG
  cases besideG s ov k with
  | bad j => rfl
  | ok x k1 =>
    simp only [R.bind]
    by_cases hs : sees s k1 58 = true
    · rw [if_neg (by rw [hs]; simp), if_pos hs, if_pos hs]
      unfold restG cont
      rw [if_pos hs]
      cases hq : sepG s (besideG s ov) 58 (N s) (k1 + 1) with
      | bad j => rfl
      | ok xs k2 =>
        simp only [R.bind]
        rw [one_more 3 (sep_ne _ _ hq)]
        rfl
    · rw [if_pos ⟨trivial, by simpa using hs⟩, if_neg hs]
      rfl
theorem beside_3 (ov : Nat → R (Item × Bool)) (k : Nat) : besideG s ov k = (ov k).bind fun x k1 => if sees s k1 42 = true then (cont [x.1] (restG s (fun j => (ov j).bind fun y j1 => .ok y.1 j1) 42 (N s) k1)).bind fun xs k2 => .ok (.mk (kindN 2) [] 0 xs) k2 else if x.2 = true then .bad k1 else .ok x.1 k1 := by
  unfold besideG
  generalize hp : (fun j => (ov j).bind fun y j1 => R.ok y.1 j1) = p
  cases ov k with
  | bad j => rfl
  | ok x k1 =>
    simp only [R.bind]
    by_cases hs : sees s k1 42 = true
    · rw [if_neg (by rw [hs]; simp), if_pos hs, if_pos hs]
      unfold restG cont
      rw [if_pos hs]
      cases hq : sepG s p 42 (N s) (k1 + 1) with
      | bad j => rfl
      | ok xs k2 =>
        simp only [R.bind]
        rw [one_more 2 (sep_ne _ _ hq)]
        rfl
    · rw [if_neg hs, if_neg hs]
      have hf : sees s k1 42 = false := by simpa using hs
      by_cases hb : x.2 = true
      · rw [if_pos ⟨hb, hf⟩, if_pos hb]
      · rw [if_neg (fun q => hb q.1), if_neg hb]
theorem sepl_bad {n k j : Nat} {xs : List Item} (hn : 0 < n) (hp : p k = .bad j) : cont xs (sepG s p c n k) = .bad j := by
  obtain ⟨m, rfl⟩ : ∃ m, n = m + 1 := ⟨n - 1, by omega⟩
  rw [sepG, hp]
  rfl
theorem sepl_stop {n k k1 : Nat} {xs : List Item} {y : Item} (hn : 0 < n) (hp : p k = .ok y k1) (hs : sees s k1 c = false) : cont xs (sepG s p c n k) = .ok (xs ++ [y]) k1 := by
  obtain ⟨m, rfl⟩ : ∃ m, n = m + 1 := ⟨n - 1, by omega⟩
  rw [sepG, hp]
  simp only [R.bind]
  rw [if_neg (by rw [hs]; exact Bool.false_ne_true)]
  rfl
theorem sepl_more {n k k1 : Nat} {xs : List Item} {y : Item} (hn : s.length - k < n) (hp : p k = .ok y k1) (hk : k ≤ k1) (hs : sees s k1 c = true) :
    ∃ m, s.length - (k1 + 1) < m ∧ cont xs (sepG s p c n k) = cont (xs ++ [y]) (sepG s p c m (k1 + 1)) := by
  have hl := sees_lt' hs
  obtain ⟨m, rfl⟩ : ∃ m, n = m + 1 := ⟨n - 1, by omega⟩
  refine ⟨m, by omega, ?_⟩
  rw [sepG, hp]
  simp only [R.bind]
  rw [if_pos hs]
  cases sepG s p c m (k1 + 1) with
  | bad j => rfl
  | ok ys k2 => simp [cont, R.bind]
end
end Cd
namespace Tx
theorem end_more {ns : List Node} {i m : Nat} (hm : i + 1 + m ≤ endV ns i) : i + 1 + m < endV ns i ↔ (i + 1 + m < ns.length ∧ dp ns i < dp ns (i + 1 + m)) := by
  constructor
  · exact fun h => end_in (by omega) h
  · intro ⟨h1, h2⟩
    refine Nat.lt_of_le_of_ne hm fun e => ?_
    have := end_at (ns := ns) (i := i) (by omega)
    rw [← e] at this
    omega
theorem nd_at {ns : List Node} {i : Nat} (h : i < ns.length) : ns[i]? = some (nd ns i) := by
  unfold nd
  rw [List.getElem?_eq_getElem h]
  rfl
end Tx
namespace Go.Proofs.YtenmkbpdkfhbjaaGreat
open Go Go.RowKit

abbrev RdN (w : World) (B : Nat) (v : Value) (ns : List Tx.Node) : Prop := RdS w B 8 encN v ns
theorem RdN.eight {w : World} {B : Nat} {A : Option Addr} {n c : Nat} {ns : List Tx.Node} (h : RdN w B (.slice A n c) ns) (h0 : 0 < ns.length) :
    ∃ b off, A = some ⟨b, off, none⟩ ∧ b < B ∧ ∀ i, i < ns.length → w.cell? ⟨b, off + i * 8, none⟩ = some (.int .i64 (Tx.nd ns i).kind) ∧ w.cell? ⟨b, off + i * 8 + 1, none⟩ = some (.int .i64 (Tx.nd ns i).depth) ∧ w.cell? ⟨b, off + i * 8 + 2, none⟩ = some (.int .i64 (Tx.nd ns i).sign) ∧ w.cell? ⟨b, off + i * 8 + 3, none⟩ = some (.int .i64 (Tx.nd ns i).turn) ∧
      w.cell? ⟨b, off + i * 8 + 4, none⟩ = some (.bool (Tx.nd ns i).mirror) ∧ w.cell? ⟨b, off + i * 8 + 5, none⟩ = some (.int .i64 (Tx.nd ns i).state) ∧ w.cell? ⟨b, off + i * 8 + 6, none⟩ = some (.int .i64 (Tx.nd ns i).lo) ∧ w.cell? ⟨b, off + i * 8 + 7, none⟩ = some (.int .i64 (Tx.nd ns i).hi) := by
  obtain ⟨A', c', hv, _, _, hh⟩ := h
  cases hv
  obtain ⟨b, off, rfl, hb, hcell⟩ := hh h0
  refine ⟨b, off, rfl, hb, fun i hi => ?_⟩
  have h := hcell i _ (Tx.nd_at hi)
  refine ⟨?_, h 1 _ rfl, h 2 _ rfl, h 3 _ rfl, h 4 _ rfl, h 5 _ rfl, h 6 _ rfl, h 7 _ rfl⟩
  have := h 0 _ rfl
  simpa using this
def RetEnd (ns : List Tx.Node) (i : Nat) (w : World) (e : Ending) (w' : World) : Prop := e = .returned (.int .i64 (Tx.endV ns i : Int)) ∧ ∃ n, w' = w.drewN n
set_option maxRecDepth 100000 in
set_option maxHeartbeats 8000000 in
theorem end_any (w : World) (B : Nat) (A : Option Addr) (c : Nat) (ns : List Tx.Node) (i : Nat) (h : RdN w B (.slice A ns.length c) ns) (hi : i < ns.length) (hn : ns.length ≤ 1000000) :
    Calls Tryz.prog 104 #[.slice A ns.length c, .int .i64 i] w (RetEnd ns i w) := by
  obtain ⟨b, off, rfl, -, hcell⟩ := RdN.eight h (by omega)
  have HC := Lib.hid hcell
  have HI := Lib.hid hi
  have hiI : (i : Int) < (ns.length : Int) := by omega
  have hnI : (ns.length : Int) ≤ 1000000 := by omega
  have hle : Tx.endV ns i ≤ ns.length := Tx.end_le hi
  have hgt := Tx.end_gt ns i
  obtain ⟨en, hen⟩ : ∃ en, en = Tx.endV ns i := ⟨_, rfl⟩
  rw [← hen] at hle hgt
  have HEN := Lib.hid hen
  clear h hcell hen
  have HRES : Hid (∀ w', (∃ n, w' = w.drewN n) → RetEnd ns i w (.returned (.int .i64 (en : Int))) w') := Lib.hid fun w' hw => ⟨by rw [HEN.out], hw⟩
  go_enter Tryz.func104, Tryz.ntmps104
  go_wp2_with fail
  go_loopg [5] (en - (i + 1)) (fun g v wr => ∃ k : Nat, i < k ∧ k ≤ en ∧ g = en - k ∧ v = .int .i64 (k : Int) ∧ ∃ n, wr = w.drewN n)
  case atStart => exact ⟨i + 1, by omega, by omega, rfl, rfl, 0, rfl⟩
  case round =>
    obtain ⟨k, hk, hke, rfl, rfl, n, rfl⟩ := hrel
    have hmore : k < en ↔ (k < ns.length ∧ Tx.dp ns i < Tx.dp ns k) := by
      have := Tx.end_more (ns := ns) (i := i) (m := k - (i + 1)) (by rw [← HEN.out]; omega)
      rw [← HEN.out, show i + 1 + (k - (i + 1)) = k by omega] at this
      exact this
    by_cases hkl : k < ns.length
    · have hklI : (k : Int) < (ns.length : Int) := by omega
      have f0 := (HC.out i HI.out).2.1
      have f1 := (HC.out k hkl).2.1
      have hg : decide ((k : Int) < (ns.length : Int)) = true := by simpa using hkl
      have hk0 : (0 : Int) ≤ (k : Int) := by omega
      by_cases hd : Tx.dp ns i < Tx.dp ns k
      · have hlt : k < en := hmore.2 ⟨hkl, hd⟩
        have d1 : decide ((Tx.nd ns i).depth < (Tx.nd ns k).depth) = true := decide_eq_true hd
        clear hd hmore
        go_upto_region 2 with fail
        go_quiet (fail)
        go_wp2_with fail
        go_roundg (en - (k + 1))
        case measure => omega
        case rel => exact ⟨k + 1, by omega, by omega, rfl, by go_num, _, rfl⟩
      · have hEQ : k = en := by
          refine Nat.le_antisymm hke (Nat.le_of_not_lt fun q => hd (hmore.1 q).2)
        have HEQ := Lib.hid hEQ
        have d1 : decide ((Tx.nd ns i).depth < (Tx.nd ns k).depth) = false := decide_eq_false hd
        clear hd hmore hEQ hgt hle hke
        go_upto_region 2 with fail
        go_quiet (fail)
        go_wp2_with fail
        go_ret
        rw [HEQ.out]
        exact HRES.out _ ⟨_, World.drewN_drewN _ _ _⟩
    · have hg : decide ((k : Int) < (ns.length : Int)) = false := by simpa using hkl
      have HEQ : Hid (k = en) := Lib.hid (by omega)
      clear hmore hgt hle hke
      go_upto_region 2 with fail
      go_quiet (fail)
      go_wp2_with fail
      go_ret
      rw [HEQ.out]
      exact HRES.out _ ⟨_, World.drewN_drewN _ _ _⟩
end Go.Proofs.YtenmkbpdkfhbjaaGreat
namespace Go.Proofs.YtenmkbpdkfhbjaaGreat
open Go Go.RowKit

structure R3Is (R : Nat) (L : Sg.SList) (As : Option Addr) (cs : Nat) (s : ByteArray) (kind : Int) (k : Nat) (u : Int) (w : World) : Prop where
  cells : w.heap[R]? = some (.cells #[.int .i64 L.periods, .slice As L.signs.length cs, .string s, .int .i64 kind, .int .i64 k, .int .i64 u] 82 (0, 0))
  le : k ≤ s.size
section
variable {R : Nat} {L : Sg.SList} {As : Option Addr} {cs : Nat} {s : ByteArray} {kind : Int} {k : Nat} {u : Int} {w w' : World}
theorem R3Is.at (h : R3Is R L As cs s kind k u w) : w.cell? ⟨R, 0, none⟩ = some (.int .i64 L.periods) ∧ w.cell? ⟨R, 1, none⟩ = some (.slice As L.signs.length cs) ∧ w.cell? ⟨R, 2, none⟩ = some (.string s) ∧ w.cell? ⟨R, 3, none⟩ = some (.int .i64 kind) ∧ w.cell? ⟨R, 4, none⟩ = some (.int .i64 k) ∧ w.cell? ⟨R, 5, none⟩ = some (.int .i64 u) ∧ w.frozen? ⟨R, 4, none⟩ = false ∧ w.frozen? ⟨R, 5, none⟩ = false ∧ R < w.heap.size := by
  have hh := h.cells
  exact ⟨by simp [World.cell?, hh], by simp [World.cell?, hh], by simp [World.cell?, hh], by simp [World.cell?, hh], by simp [World.cell?, hh], by simp [World.cell?, hh], by simp [World.frozen?, hh], by simp [World.frozen?, hh], (Array.getElem?_eq_some_iff.1 hh).1⟩
theorem R3Is.lt (h : R3Is R L As cs s kind k u w) : R < w.heap.size := (Array.getElem?_eq_some_iff.1 h.cells).1
theorem R3Is.keep (h : R3Is R L As cs s kind k u w) (hk : w'.heap[R]? = w.heap[R]?) : R3Is R L As cs s kind k u w' := ⟨hk.trans h.cells, h.le⟩
theorem R3Is.below (h : R3Is R L As cs s kind k u w) (hb : Below w.heap.size w w') : R3Is R L As cs s kind k u w' := h.keep (hb.block R h.lt)
theorem R3Is.put (h : R3Is R L As cs s kind k u w) {k' : Nat} (hk : k' ≤ s.size) : R3Is R L As cs s kind k' u (w.setCell ⟨R, 4, none⟩ (.int .i64 k')) := ⟨Go.Joins.block_setCell h.cells _, hk⟩
theorem R3Is.putU (h : R3Is R L As cs s kind k u w) (u' : Int) : R3Is R L As cs s kind k u' (w.setCell ⟨R, 5, none⟩ (.int .i64 u')) := ⟨Go.Joins.block_setCell h.cells _, h.le⟩
theorem R3Is.next (h : R3Is R L As cs s kind k u w) (hk : k < s.size) : R3Is R L As cs s kind (k + 1) u (w.setCell ⟨R, 4, none⟩ (.int .i64 ((k : Int) + 1))) := h.put (k' := k + 1) hk
theorem R3Is.byte (_h : R3Is R L As cs s kind k u w) (hlt : k < s.size) : s.data.toList[k]? = some s[k] := by
  rw [List.getElem?_eq_getElem (by simpa using hlt)]; rfl
end
def RetB3 (b : Bool) (w : World) (e : Ending) (w' : World) : Prop := e = .returned (.bool b) ∧ Below w.heap.size w w'
set_option maxRecDepth 100000 in
set_option maxHeartbeats 2000000 in
theorem sees3_any (R : Nat) (L : Sg.SList) (As : Option Addr) (cs : Nat) (s : ByteArray) (kind : Int) (k : Nat) (u : Int) (c : UInt8) (w : World) (h : R3Is R L As cs s kind k u w) :
    Calls Tryz.prog 94 #[.pointer (some ⟨R, 0, none⟩), .int .u8 c.toNat] w (RetB3 (Cd.sees s.data.toList k c) w) := by
  obtain ⟨-, -, c2, -, c4, -, -, -, hlt⟩ := h.at
  have hk := h.le
  by_cases hend : k < s.size
  · have hq : decide ((k : Int) < (s.size : Int)) = true := by simpa using hend
    have hl0 : (0 : Int) ≤ (k : Int) := by omega
    have hl1 : (k : Int) < (s.size : Int) := by omega
    have hby := Lib.hid (h.byte hend)
    clear h
    have hne : (((s[k].toNat : Nat) : Int) == (c.toNat : Int)) = Cd.sees s.data.toList k c := by
      rw [Cd.sees, hby.out]
      simp only [Option.some.injEq]
      by_cases q : s[k] = c
      · rw [q]; simp
      · rw [decide_eq_false q]
        simp
        intro e
        exact q (UInt8.toNat_inj.1 (by omega))
    cases hsee : Cd.sees s.data.toList k c
    all_goals
      rw [hsee] at hne
      clear hsee
      go_enter Tryz.func94, Tryz.ntmps94
      go_wp2
      go_quiet (fail)
      go_wp2
      go_ret
      exact ⟨rfl, drew_below _⟩
  · have hq : decide ((k : Int) < (s.size : Int)) = false := by simpa using hend
    have hq2 : decide (k < s.size) = false := by simpa using hend
    have HS : Hid (Cd.sees s.data.toList k c = false) := Lib.hid (by
      cases hsee : Cd.sees s.data.toList k c with
      | false => rfl
      | true => have := Cd.sees_lt' hsee; simp at this; omega)
    clear h hend
    go_enter Tryz.func94, Tryz.ntmps94
    go_wp2
    go_quiet (fail)
    go_wp2
    go_ret
    exact ⟨by rw [HS.out]; rfl, drew_below _⟩
def RetTk (R : Nat) (L : Sg.SList) (As : Option Addr) (cs : Nat) (s : ByteArray) (kind : Int) (k : Nat) (u : Int) (c : UInt8) (w : World) (e : Ending) (w' : World) : Prop :=
  e = .returned (.bool (Cd.sees s.data.toList k c)) ∧ w.grownBy w' (some R) ∧ R3Is R L As cs s kind (if Cd.sees s.data.toList k c = true then k + 1 else k) u w'
set_option maxRecDepth 100000 in
set_option maxHeartbeats 2000000 in
theorem takes3_any (R : Nat) (L : Sg.SList) (As : Option Addr) (cs : Nat) (s : ByteArray) (kind : Int) (k : Nat) (u : Int) (c : UInt8) (w : World) (h : R3Is R L As cs s kind k u w) (hs : s.size ≤ 1000000) :
    Calls Tryz.prog 68 #[.pointer (some ⟨R, 0, none⟩), .int .u8 c.toNat] w (RetTk R L As cs s kind k u c w) := by
  have HI := Lib.hid (sees3_any R L As cs s kind k u c w h)
  have hk := h.le
  have HR := Lib.hid h
  unfold RetB3 at HI
  cases hsee : Cd.sees s.data.toList k c
  · rw [hsee] at HI
    have HS := Lib.hid hsee
    clear hsee h
    go_enter Tryz.func68, Tryz.ntmps68
    go_wp2_with fail
    refine HI.out.mono ?_
    rintro e w1 ⟨rfl, hb⟩
    have HB := Lib.hid hb
    clear hb
    go_wp2_with fail
    go_ret
    exact ⟨by rw [HS.out]; rfl, grown_of_below HB.out, by rw [if_neg (by rw [HS.out]; exact Bool.false_ne_true)]; exact HR.out.below HB.out⟩
  · rw [hsee] at HI
    have hks : k < s.size := by have := Cd.sees_lt' hsee; simpa using this
    have HS := Lib.hid hsee
    clear hsee h
    go_enter Tryz.func68, Tryz.ntmps68
    go_wp2_with fail
    refine HI.out.mono ?_
    rintro e w1 ⟨rfl, hb⟩
    have hr1 := HR.out.below hb
    obtain ⟨-, -, c2, -, c4, -, f4, -, hlt⟩ := hr1.at
    have HR1 := Lib.hid hr1
    have HB := Lib.hid hb
    clear hb hr1
    go_wp2_with fail
    go_ret
    exact ⟨by rw [HS.out]; rfl, grown_after (grown_of_below HB.out) (grown_set _ _ _ _) (.inl rfl), by rw [if_pos HS.out]; exact HR1.out.next hks⟩
def RetDg (R : Nat) (L : Sg.SList) (As : Option Addr) (cs : Nat) (s : ByteArray) (kind : Int) (u : Int) (q : Cd.R Int) (w : World) (e : Ending) (w' : World) : Prop :=
  w.grownBy w' (some R) ∧ match q with
    | .bad k => e = .returned (.tuple #[.int .i64 0, .bool false]) ∧ R3Is R L As cs s kind k u w'
    | .ok n k => e = .returned (.tuple #[.int .i64 n, .bool true]) ∧ R3Is R L As cs s kind k u w'
set_option maxRecDepth 100000 in
set_option maxHeartbeats 4000000 in
theorem digit3_any (R : Nat) (L : Sg.SList) (As : Option Addr) (cs : Nat) (s : ByteArray) (kind : Int) (k : Nat) (u : Int) (lo hi : UInt8) (w : World) (h : R3Is R L As cs s kind k u w) (hs : s.size ≤ 1000000) (hl : 48 ≤ lo) :
    Calls Tryz.prog 111 #[.pointer (some ⟨R, 0, none⟩), .int .u8 lo.toNat, .int .u8 hi.toNat] w (RetDg R L As cs s kind u (Cd.digitG s.data.toList lo hi k) w) := by
  obtain ⟨-, -, c2, -, c4, -, f4, -, hlt⟩ := h.at
  have HR := Lib.hid h
  have hk := h.le
  have hl' : 48 ≤ lo.toNat := UInt8.le_iff_toNat_le.1 hl
  have hhi : hi.toNat < 256 := UInt8.toNat_lt hi
  by_cases hend : k = s.size
  · have hq : ((k : Int) == (s.size : Int)) = true := by simp [hend]
    have HQ : Hid (Cd.digitG s.data.toList lo hi k = .bad k) := Lib.hid (by unfold Cd.digitG; rw [List.getElem?_eq_none (by rw [hend]; simp)])
    clear h hend
    go_enter Tryz.func111, Tryz.ntmps111
    go_wp2
    go_quiet (fail)
    go_wp2
    refine bodyPost_ret (results_tmp2 rfl _ _ _) rfl ?_
    rw [HQ.out]
    exact ⟨grown_of_below (drew_below _), rfl, HR.out.below (drew_below _)⟩
  · have hq : ((k : Int) == (s.size : Int)) = false := by simp; omega
    have hl1 : k < s.size := by omega
    have hi0 : (0 : Int) ≤ (k : Int) := by omega
    have hi1 : (k : Int) < (s.size : Int) := by omega
    have hby := h.byte hl1
    obtain ⟨m, hm⟩ : ∃ m : Int, m = ((s[k].toNat : Nat) : Int) := ⟨_, rfl⟩
    have hm0 : 0 ≤ m ∧ m ≤ 255 := by have : s[k].toNat < 256 := UInt8.toNat_lt _; omega
    have HQ : Hid (Cd.digitG s.data.toList lo hi k = if (lo.toNat : Int) ≤ m ∧ m ≤ (hi.toNat : Int) then .ok (m - 48) (k + 1) else .bad k) := Lib.hid (by
      unfold Cd.digitG
      rw [hby]
      simp only [UInt8.le_iff_toNat_le]
      by_cases q : lo.toNat ≤ s[k].toNat ∧ s[k].toNat ≤ hi.toNat
      · rw [if_pos q, if_pos (by omega), hm]
      · rw [if_neg q, if_neg (by omega)])
    clear h hend hby
    by_cases hin : (lo.toNat : Int) ≤ m ∧ m ≤ (hi.toNat : Int)
    · have hQ := HQ.out
      rw [if_pos hin] at hQ
      have HQ := Lib.hid hQ
      have g1 : decide (s[k].toNat < lo.toNat) = false := by simp; omega
      have g2 : decide (hi.toNat < s[k].toNat) = false := by simp; omega
      have g3 : 48 ≤ ((s[k].toNat : Nat) : Int) := by omega
      have g4 : ((s[k].toNat : Nat) : Int) ≤ 255 := by omega
      have HM := Lib.hid hm
      clear hQ hin hm hm0 hl' hhi hl
      go_enter Tryz.func111, Tryz.ntmps111
      go_wp2
      go_quiet (fail)
      go_wp2
      go_quiet (fail)
      go_wp2
      refine bodyPost_ret (results_tmp2 rfl _ _ _) rfl ?_
      rw [HQ.out, HM.out]
      exact ⟨grown_below (grown_after (grown_of_below (drew_below _)) (grown_set _ _ _ _) (.inl rfl)) (drew_below _), rfl, ((HR.out.below (drew_below _)).next hl1).below (drew_below _)⟩
    · have hQ := HQ.out
      rw [if_neg hin] at hQ
      have HQ := Lib.hid hQ
      by_cases hlo : m < (lo.toNat : Int)
      · have g1 : decide (s[k].toNat < lo.toNat) = true := by simp; omega
        clear hQ hin hm hm0 hl' hhi hl hlo
        go_enter Tryz.func111, Tryz.ntmps111
        go_wp2
        go_quiet (fail)
        go_wp2
        refine bodyPost_ret (results_tmp2 rfl _ _ _) rfl ?_
        rw [HQ.out]
        exact ⟨grown_of_below (drew_below _), rfl, HR.out.below (drew_below _)⟩
      · have g1 : decide (s[k].toNat < lo.toNat) = false := by simp; omega
        have g2 : decide (hi.toNat < s[k].toNat) = true := by simp; omega
        clear hQ hin hm hm0 hl' hhi hl hlo
        go_enter Tryz.func111, Tryz.ntmps111
        go_wp2
        go_quiet (fail)
        go_wp2
        refine bodyPost_ret (results_tmp2 rfl _ _ _) rfl ?_
        rw [HQ.out]
        exact ⟨grown_of_below (drew_below _), rfl, HR.out.below (drew_below _)⟩
def Cd.letB (s : List UInt8) (k : Nat) (first : Bool) : Bool := match s[k]? with
  | some c => if first = true then Cd.upperB c else Cd.wordB c
  | none => false
theorem let_iff {s : List UInt8} {k : Nat} {first : Bool} {c : UInt8} (h : s[k]? = some c) : Cd.letB s k first = true ↔ if first = true then (65 ≤ (c.toNat : Int) ∧ (c.toNat : Int) ≤ 90) else Cd.wordI (c.toNat : Int) := by
  unfold Cd.letB
  rw [h]
  cases first
  · simp only [Bool.false_eq_true, if_false]
    exact Cd.word_iff c
  · simp only [if_true]
    unfold Cd.upperB
    have e : (65 : UInt8).toNat = 65 ∧ (90 : UInt8).toNat = 90 := by decide
    simp only [decide_eq_true_eq, UInt8.le_iff_toNat_le]
    rw [e.1, e.2]
    omega
set_option maxRecDepth 100000 in
set_option maxHeartbeats 8000000 in
theorem letter3_any (R : Nat) (L : Sg.SList) (As : Option Addr) (cs : Nat) (s : ByteArray) (kind : Int) (k : Nat) (u : Int) (first : Bool) (w : World) (h : R3Is R L As cs s kind k u w) :
    Calls Tryz.prog 118 #[.pointer (some ⟨R, 0, none⟩), .bool first] w (RetB3 (Cd.letB s.data.toList k first) w) := by
  obtain ⟨-, -, c2, -, c4, -, -, -, hlt⟩ := h.at
  have hk := h.le
  by_cases hend : k = s.size
  · have hq : ((k : Int) == (s.size : Int)) = true := by simp [hend]
    have HQ : Hid (Cd.letB s.data.toList k first = false) := Lib.hid (by unfold Cd.letB; rw [List.getElem?_eq_none (by rw [hend]; simp)])
    clear h hend
    go_enter Tryz.func118, Tryz.ntmps118
    go_wp2
    go_quiet (fail)
    go_wp2
    go_ret
    exact ⟨by rw [HQ.out]; rfl, drew_below _⟩
  · have hq : ((k : Int) == (s.size : Int)) = false := by simp; omega
    have hl1 : k < s.size := by omega
    have hi0 : (0 : Int) ≤ (k : Int) := by omega
    have hi1 : (k : Int) < (s.size : Int) := by omega
    have HI := let_iff (first := first) (h.byte hl1)
    obtain ⟨m, hm⟩ : ∃ m : Int, m = ((s[k].toNat : Nat) : Int) := ⟨_, rfl⟩
    rw [← hm] at HI
    obtain ⟨b, hb⟩ : ∃ b, b = Cd.letB s.data.toList k first := ⟨_, rfl⟩
    rw [← hb] at HI ⊢
    have hm0 : 0 ≤ m ∧ m ≤ 255 := by have : s[k].toNat < 256 := UInt8.toNat_lt _; omega
    obtain ⟨t1, h1⟩ : ∃ t, decide ((65 : Int) ≤ m) = t := ⟨_, rfl⟩
    obtain ⟨t2, h2⟩ : ∃ t, decide (m ≤ (90 : Int)) = t := ⟨_, rfl⟩
    obtain ⟨t3, h3⟩ : ∃ t, decide ((97 : Int) ≤ m) = t := ⟨_, rfl⟩
    obtain ⟨t4, h4⟩ : ∃ t, decide (m ≤ (122 : Int)) = t := ⟨_, rfl⟩
    obtain ⟨t5, h5⟩ : ∃ t, decide ((48 : Int) ≤ m) = t := ⟨_, rfl⟩
    obtain ⟨t6, h6⟩ : ∃ t, decide (m ≤ (57 : Int)) = t := ⟨_, rfl⟩
    have HB : Hid (b = ((t1 && t2) || (!first && ((t3 && t4) || (t5 && t6))))) := Lib.hid (by
      rw [Bool.eq_iff_iff, HI, ← h1, ← h2, ← h3, ← h4, ← h5, ← h6]
      unfold Cd.wordI
      cases first <;> simp)
    rw [hm] at h1 h2 h3 h4 h5 h6
    clear h hend HI hb hm hm0
    cases first <;> cases t1 <;> cases t2 <;> first
      | (go_enter Tryz.func118, Tryz.ntmps118
         go_wp2
         go_quiet (fail)
         go_wp2
         go_quiet (fail)
         go_wp2
         go_ret
         exact ⟨by rw [HB.out]; rfl, drew_below _⟩)
      | (cases t3 <;> cases t4 <;> cases t5 <;> cases t6 <;>
         ( go_enter Tryz.func118, Tryz.ntmps118
           go_wp2
           go_quiet (fail)
           go_wp2
           go_quiet (fail)
           go_wp2
           go_ret
           exact ⟨by rw [HB.out]; rfl, drew_below _⟩ ))
end Go.Proofs.YtenmkbpdkfhbjaaGreat
