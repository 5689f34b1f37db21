/- A valid text may be written, and is read as it was: plain law.; Read and Write of both codes, as values; reading what was written and writing what was read: plain law.; Nodes and items of a text in memory. -/
import Derived.Test.YtenmkbpdkfhbjaaGreatRcSgFmtPlain
import Derived.Test.YtenmkbpdkfhbjaaGreatRcFmtPlain
namespace Cd
open Go
open Tx
theorem upper_eq {c : UInt8} (h : Sg.upper c = true) : upperB c = true := by
 unfold Sg.upper at h
 unfold upperB
 simpa using h
theorem word_eq {c : UInt8} (h : Sg.alnum c = true) : wordB c = true := by
 unfold Sg.alnum Lx.letter Sg.digit at h
 unfold wordB upperB
 simp only [Bool.or_eq_true, Bool.and_eq_true, decide_eq_true_eq] at h ⊢
 rcases h with (h | h) | h
 ·exact .inl (.inr h)
 ·exact .inl (.inl h)
 ·exact .inr h
theorem code_ok {t : ByteArray} (h : Sg.codeB t = true) : CodeOk t.data.toList := by
 obtain ⟨h1, h2, h3⟩ := Sg.code_all h
 refine ⟨h3, ?_⟩
 unfold Sg.codeB at h
 simp only [Bool.and_eq_true] at h
 have hu := h.1.2
 cases hl : t.data.toList with
 | nil => exact absurd hl h2
 | cons u w =>
  rw [hl] at hu
  refine ⟨u, w, rfl, upper_eq (by simpa using hu), fun b hb => word_eq (h1 b (by rw [hl]; simp [hb]))⟩
theorem own_facts {l : Sg.SList} {b : Option Tx.Node} {n : Tx.Node} (h : ownV l b n = 0) :
  (n.kind = 1 → 0 ≤ n.sign ∧ n.sign < l.signs.length ∧ 0 ≤ n.turn ∧ n.turn ≤ 3 ∧ 0 ≤ n.state ∧ n.state ≤ 3 ∧ n.lo = 0 ∧ n.hi = 0) ∧
  (n.kind = 6 → 0 ≤ n.lo ∧ n.lo ≤ n.hi ∧ n.hi ≤ 9 ∧ 1 ≤ n.hi ∧ n.sign = 0 ∧ n.turn = 0 ∧ n.mirror = false ∧ n.state = 0) ∧
  (n.kind ≠ 1 → n.kind ≠ 6 → n.sign = 0 ∧ n.turn = 0 ∧ n.mirror = false ∧ n.state = 0 ∧ n.lo = 0 ∧ n.hi = 0) := by
 unfold ownV at h
 by_cases c1 : n.kind < 1 ∨ 7 < n.kind
 ·rw [if_pos c1] at h; exact absurd h (by decide)
 rw [if_neg c1] at h
 by_cases c2 : n.depth < 0 ∨ 4 < n.depth ∨ most b < n.depth
 ·rw [if_pos c2] at h; exact absurd h (by decide)
 rw [if_neg c2] at h
 by_cases k1 : n.kind = 1
 ·rw [if_pos k1] at h
  by_cases c3 : n.sign < 0 ∨ (l.signs.length : Int) ≤ n.sign
  ·rw [if_pos c3] at h; exact absurd h (by decide)
  rw [if_neg c3] at h
  by_cases c4 : n.turn < 0 ∨ 3 < n.turn ∨ n.state < 0 ∨ 3 < n.state ∨ (n.mirror = true ∧ evenAt l n.sign = true)
  ·rw [if_pos c4] at h; exact absurd h (by decide)
  rw [if_neg c4] at h
  by_cases c5 : n.lo ≠ 0 ∨ n.hi ≠ 0
  ·rw [if_pos c5] at h; exact absurd h (by decide)
  exact ⟨fun _ => by omega, fun e => by omega, fun e => absurd k1 e⟩
 rw [if_neg k1] at h
 by_cases k6 : n.kind = 6
 ·rw [if_pos k6] at h
  by_cases c3 : n.lo < 0 ∨ n.hi < n.lo ∨ 9 < n.hi ∨ n.hi < 1
  ·rw [if_pos c3] at h; exact absurd h (by decide)
  rw [if_neg c3] at h
  by_cases c4 : n.sign ≠ 0 ∨ n.turn ≠ 0 ∨ n.mirror = true ∨ n.state ≠ 0
  ·rw [if_pos c4] at h; exact absurd h (by decide)
  have hm : n.mirror = false := by
   cases hm : n.mirror
   ·rfl
   ·exact absurd (.inr (.inr (.inl hm))) c4
  exact ⟨fun e => absurd e k1, fun _ => ⟨by omega, by omega, by omega, by omega, by omega, by omega, hm, by omega⟩, fun _ e => absurd k6 e⟩
 rw [if_neg k6] at h
 by_cases c4 : n.sign ≠ 0 ∨ n.turn ≠ 0 ∨ n.mirror = true ∨ n.state ≠ 0 ∨ n.lo ≠ 0 ∨ n.hi ≠ 0
 ·rw [if_pos c4] at h; exact absurd h (by decide)
 have hm : n.mirror = false := by
  cases hm : n.mirror
  ·rfl
  ·exact absurd (.inr (.inr (.inl hm))) c4
 exact ⟨fun e => absurd e k1, fun e => absurd e k6, fun _ _ => ⟨by omega, by omega, hm, by omega, by omega, by omega⟩⟩
structure Valid (l : Sg.SList) (ns : List Tx.Node) : Prop where
 list : Sg.checkV l = 0
 own : ∀ i, i < ns.length → ownAt l ns i = 0
 fam : ∀ i, i < ns.length → famP ns i
theorem valid_of {l : Sg.SList} {ns : List Tx.Node} (h : checkT l ns = 0) : Valid l ns ∧ ns.length ≤ 200 := by
 unfold checkT at h
 by_cases c1 : Sg.checkV l ≠ 0
 ·rw [if_pos c1] at h; exact absurd h c1
 rw [if_neg c1] at h
 by_cases c2 : 200 < ns.length
 ·rw [if_pos c2] at h; exact absurd h (by decide)
 rw [if_neg c2] at h
 by_cases c3 : Sg.firstE (ownAt l ns) ns.length ≠ 0
 ·rw [if_pos c3] at h; exact absurd h c3
 rw [if_neg c3] at h
 by_cases c4 : (List.range ns.length).all (famB ns) = true
 ·exact ⟨⟨by simpa using c1, Sg.firstE_ne (by simpa using c3), fam_all.1 c4⟩, by omega⟩
 ·rw [if_neg c4] at h; exact absurd h (by decide)
def lackB (kind : Int) (n : Tx.Node) : Bool := decide (kind = 2) && (decide (n.state ≠ 0) || decide (n.lo ≠ n.hi))
def lacksV (kind : Int) (ns : List Tx.Node) : List Int := ((List.range ns.length).filter fun i => lackB kind (nd ns i)).map Int.ofNat
end Cd
namespace Cd
open Go
open Tx
def signIx (l : Sg.SList) (c : List UInt8) : Int := match l.signs.findIdx? (fun s => decide (s.code.data.toList = c)) with
 | some i => (i : Int)
 | none => -1
theorem ix_at {l : Sg.SList} {c : List UInt8} (h : signIx l c ≠ -1) : codeAt l (signIx l c) = c := by
 unfold signIx at h ⊢
 cases hf : l.signs.findIdx? (fun s => decide (s.code.data.toList = c)) with
 | none => rw [hf] at h; exact absurd rfl h
 | some i =>
  obtain ⟨h1, h2, -⟩ := List.findIdx?_eq_some_iff_getElem.1 hf
  unfold codeAt
  simp only [Int.toNat_natCast]
  rw [List.getElem?_eq_getElem h1]
  simpa using h2
theorem data_inj {a b : ByteArray} (h : a.data.toList = b.data.toList) : a = b := by
 have e : a.data = b.data := Array.toList_inj.1 h
 cases a; cases b
 simp only at e
 rw [e]
theorem ix_code {l : Sg.SList} (h : Sg.checkV l = 0) {k : Int} (h1 : 0 ≤ k) (h2 : k < l.signs.length) : signIx l (codeAt l k) = k := by
 obtain ⟨i, rfl⟩ := Int.eq_ofNat_of_zero_le h1
 have hi : i < l.signs.length := by omega
 have hs : l.signs[i]? = some l.signs[i] := List.getElem?_eq_getElem hi
 have hc : codeAt l (i : Int) = l.signs[i].code.data.toList := by
  unfold codeAt
  rw [Int.toNat_natCast, hs]
 rw [hc]
 unfold signIx
 have : l.signs.findIdx? (fun s => decide (s.code.data.toList = l.signs[i].code.data.toList)) = some i := by
  rw [List.findIdx?_eq_some_iff_getElem]
  refine ⟨hi, by simp, fun j hj => ?_⟩
  have hp := (Sg.sign_parts ((Sg.check_sign h).2.2 i _ hs)).2.1
  rw [List.any_eq_false] at hp
  intro e
  have hm : l.signs[j] ∈ l.signs.take i := List.mem_of_getElem? (i := j) (by rw [List.getElem?_take_of_lt hj]; exact List.getElem?_eq_getElem (by omega))
  exact hp _ hm (by simpa using data_inj (by simpa using e))
 rw [this]
def unknownV (l : Sg.SList) (qs : List (List UInt8 × Nat)) : Option Nat := (qs.find? fun q => decide (signIx l q.1 = -1)).map (·.2)
theorem known_all {l : Sg.SList} {qs : List (List UInt8 × Nat)} (h : unknownV l qs = none) : ∀ q ∈ qs, codeAt l (signIx l q.1) = q.1 := by
 unfold unknownV at h
 rw [Option.map_eq_none_iff, List.find?_eq_none] at h
 intro q hq
 exact ix_at (by simpa using h q hq)
def readV (kind : Int) (l : Sg.SList) (s : List UInt8) : List Tx.Node × Int × Int :=
 if kind ≠ 1 ∧ kind ≠ 2 then ([], 0, 1) else if Sg.checkV l ≠ 0 then ([], 0, Sg.checkV l) else if 65536 < s.length then ([], 0, 2) else
 match parseG s kind with
 | .bad k => ([], k, 4)
 | .ok xs _ => match unknownV l (codesL xs) with
  | some k => ([], k, 23)
  | none => if checkT l (flatL 0 (resL (signIx l) xs)) ≠ 0 then ([], 0, checkT l (flatL 0 (resL (signIx l) xs))) else (flatL 0 (resL (signIx l) xs), 0, 0)
def lacksE (kind : Int) (l : Sg.SList) (ns : List Tx.Node) : Int := if kind ≠ 1 ∧ kind ≠ 2 then 1 else checkT l ns
theorem read_way {kind : Int} {l : Sg.SList} {s : List UInt8} {ns : List Tx.Node} {k : Int} (h : readV kind l s = (ns, k, 0)) : k = 0 ∧ checkT l ns = 0 ∧ writeV kind l ns = s ∧ (kind = 1 ∨ kind = 2) := by
 unfold readV at h
 by_cases c1 : kind ≠ 1 ∧ kind ≠ 2
 ·rw [if_pos c1] at h
  injection h with _ h
  injection h with _ h
  exact absurd h (by decide)
 rw [if_neg c1] at h
 by_cases c2 : Sg.checkV l ≠ 0
 ·rw [if_pos c2] at h
  injection h with _ h
  injection h with _ h
  exact absurd h c2
 rw [if_neg c2] at h
 by_cases c3 : 65536 < s.length
 ·rw [if_pos c3] at h
  injection h with _ h
  injection h with _ h
  exact absurd h (by decide)
 rw [if_neg c3] at h
 have hk : kind = 1 ∨ kind = 2 := by omega
 cases hp : parseG s kind with
 | bad j =>
  rw [hp] at h
  injection h with _ h
  injection h with _ h
  exact absurd h (by decide)
 | ok xs j =>
  rw [hp] at h
  simp only at h
  cases hu : unknownV l (codesL xs) with
  | some q =>
   rw [hu] at h
   injection h with _ h
   injection h with _ h
   exact absurd h (by decide)
  | none =>
   rw [hu] at h
   simp only at h
   by_cases c4 : checkT l (flatL 0 (resL (signIx l) xs)) ≠ 0
   ·rw [if_pos c4] at h
    injection h with _ h
    injection h with _ h
    exact absurd h c4
   rw [if_neg c4] at h
   injection h with e1 h
   injection h with e2 _
   subst e1
   exact ⟨e2.symm, by simpa using c4, one_way hk hp (known_all hu), hk⟩
end Cd
namespace Go.Proofs.YtenmkbpdkfhbjaaGreat
open Go Go.RowKit

def Cd.bs (l : List UInt8) : ByteArray := ⟨l.toArray⟩
theorem Cd.bs_list (l : List UInt8) : (Cd.bs l).data.toList = l := rfl
def encNz (n : Tx.Node) (z : Int) : List Value := [.int .i64 n.kind, .int .i64 n.depth, .int .i64 z, .int .i64 n.turn, .bool n.mirror, .int .i64 n.state, .int .i64 n.lo, .int .i64 n.hi]
def encN (n : Tx.Node) : List Value := encNz n n.sign
theorem len_node (n : Tx.Node) : (encN n).length = 8 := rfl
theorem one_node (n : Tx.Node) : ∀ u ∈ encN n, u.oneCell' = true := by intro u hu; simp [encN, encNz] at hu; rcases hu with rfl | rfl | rfl | rfl | rfl | rfl | rfl | rfl <;> rfl
theorem info_Node : (Tryz.prog.info? 59).map (fun i => (i.zero, i.size, i.bytes)) = some (some (.agg #[.int .i64 0, .int .i64 0, .int .i64 0, .int .i64 0, .bool false, .int .i64 0, .int .i64 0, .int .i64 0]), 8, 64) := by kernel_rfl
theorem info_item : (Tryz.prog.info? 114).map (fun i => (i.zero, i.size, i.bytes)) = some (some (.agg #[.int .i64 0, .int .i64 0, .int .i64 0, .int .i64 0, .bool false, .int .i64 0, .int .i64 0, .int .i64 0, .string ⟨#[]⟩, .int .i64 0, .slice none 0 0]), 11, 112) := by kernel_rfl
def RdH {α : Type} (K : RowK α) (e : TypeId) (w : World) (ok : Nat → Prop) (v : Value) (xs : List α) : Prop :=
 ∃ A c, v = .slice A xs.length c ∧ xs.length ≤ c ∧ c ≤ 9223372036854775807 ∧
  (0 < xs.length → ∃ b cur, A = some ⟨b, 0, none⟩ ∧ ok b ∧ w.heap[b]? = some (.cells cur e (0, 0)) ∧ ∀ (i : Nat) (a : α), xs[i]? = some a → ∃ cs, K.rd w ok cs a ∧ ∀ (j : Nat) (u : Value), cs[j]? = some u → cur[i * K.size + j]? = some u)
section
variable {α : Type} {K K' : RowK α} {e : TypeId} {w w' : World} {ok ok' : Nat → Prop} {v : Value} {xs : List α}
theorem RdH.keep (h : RdH K e w ok v xs) (hk : ∀ b, ok b → ok' b ∧ w'.heap[b]? = w.heap[b]?) : RdH K e w' ok' v xs := by
 obtain ⟨A, c, hv, hl, hc, hh⟩ := h
 refine ⟨A, c, hv, hl, hc, fun h0 => ?_⟩
 obtain ⟨b, cur, hA, hb, hcur, hcell⟩ := hh h0
 refine ⟨b, cur, hA, (hk b hb).1, (hk b hb).2.trans hcur, fun i a ha => ?_⟩
 obtain ⟨cs, h1, h2⟩ := hcell i a ha
 exact ⟨cs, K.keep hk h1, h2⟩
theorem RdH.imp (h : RdH K e w ok v xs) (hs : K'.size = K.size) (hr : ∀ (i : Nat) cs a, xs[i]? = some a → K.rd w ok cs a → K'.rd w ok cs a) : RdH K' e w ok v xs := by
 obtain ⟨A, c, hv, hl, hc, hh⟩ := h
 refine ⟨A, c, hv, hl, hc, fun h0 => ?_⟩
 obtain ⟨b, cur, hA, hb, hcur, hcell⟩ := hh h0
 refine ⟨b, cur, hA, hb, hcur, fun i a ha => ?_⟩
 obtain ⟨cs, h1, h2⟩ := hcell i a ha
 exact ⟨cs, hr i cs a ha h1, by rw [hs]; exact h2⟩
theorem RdH.form (h : RdH K e w ok v xs) : ∃ A c, v = .slice A xs.length c := by
 obtain ⟨A, c, hv, _⟩ := h
 exact ⟨A, c, hv⟩
theorem RdH.nil (e : TypeId) (w : World) (ok : Nat → Prop) : RdH K e w ok (.slice none 0 0) [] := ⟨none, 0, rfl, by simp, by omega, fun h => absurd h (by simp)⟩
theorem RdH.rd (h : RdH K e w ok v xs) : RdG K w ok v xs := by
 obtain ⟨A, c, hv, hl, hc, hh⟩ := h
 refine ⟨A, c, hv, hl, hc, fun h0 => ?_⟩
 obtain ⟨b, cur, hA, hb, hcur, hcell⟩ := hh h0
 refine ⟨b, 0, hA, hb, fun i a ha => ?_⟩
 obtain ⟨cs, h1, h2⟩ := hcell i a ha
 refine ⟨cs, h1, fun j u hj => ?_⟩
 have := h2 j u hj
 simp only [World.cell?, hcur, Nat.zero_add]
 exact this
theorem OwnG.head {base : Nat} (h : OwnG K e w base v xs) : RdH K e w (fun b => b < w.heap.size ∧ base ≤ b) v xs := by
 obtain ⟨cells, h1, h2⟩ := h
 obtain ⟨_, h3⟩ := id h1
 rcases h3 with ⟨rfl, h0⟩ | ⟨g, cap, cur, rfl, hg, hh, hle, hm, hs, ht⟩
 ·exact ⟨none, 0, by rw [h0], by omega, by omega, fun hp => by omega⟩
 ·refine ⟨some ⟨g, 0, none⟩, cap, rfl, hle, by simpa [maxLen] using hm, fun _ => ⟨g, cur, rfl, ⟨(h1.lt g rfl).2, hg⟩, hh, fun i a hi => ?_⟩⟩
  obtain ⟨cs, e1, e2⟩ := h2.at hi
  refine ⟨cs, K.keep (fun b hb => ⟨⟨hb.1, hb.2.2⟩, rfl⟩) e1, fun j u hj => ?_⟩
  have h5 := e2 j u hj
  rw [← ht, List.getElem?_take] at h5
  split at h5
  ·simpa using h5
  ·cases h5
end

def KId (S : List UInt8 → Int → Prop) : Nat → RowK Cd.Item
 | 0 => ⟨11, fun _ _ _ _ => False, fun h => h.elim, fun _ h => h.elim⟩
 | d + 1 => ⟨11, fun w ok cs x => ∃ z v, cs = encNz x.node z ++ [.string (Cd.bs x.code), .int .i64 x.pos, v] ∧ (if x.node.kind = 1 then S x.code z else z = x.node.sign) ∧ RdH (KId S d) 114 w ok v x.kids,
  by rintro w ok cs x ⟨z, v, rfl, _⟩; rfl, by rintro w w' ok ok' cs x hk ⟨z, v, rfl, h1, h2⟩; exact ⟨z, v, rfl, h1, h2.keep hk⟩⟩
theorem kid_size (S : List UInt8 → Int → Prop) (d : Nat) : (KId S d).size = 11 := by cases d <;> rfl
theorem kid_up {S S' : List UInt8 → Int → Prop} (hS : ∀ c z, S c z → S' c z) {w : World} {ok : Nat → Prop} : ∀ (d d' : Nat), d ≤ d' → ∀ cs x, (KId S d).rd w ok cs x → (KId S' d').rd w ok cs x
 | 0, _, _, _, _, h => h.elim
 | d + 1, 0, h, _, _, _ => by omega
 | d + 1, d' + 1, hd, cs, x, ⟨z, v, h0, h1, h2⟩ => by
  refine ⟨z, v, h0, ?_, h2.imp ((kid_size _ _).trans (kid_size _ _).symm) fun i cs a _ ha => kid_up hS d d' (by omega) cs a ha⟩
  split at h1
  ·rename_i h; rw [if_pos h]; exact hS _ _ h1
  ·rename_i h; rw [if_neg h]; exact h1
def KI (S : List UInt8 → Int → Prop) : RowK Cd.Item where
 size := 11
 rd w ok cs x := ∃ d, (KId S d).rd w ok cs x
 len := by rintro w ok cs x ⟨d, h⟩; exact ((KId S d).len h).trans (kid_size S d)
 keep := by rintro w w' ok ok' cs x hk ⟨d, h⟩; exact ⟨d, (KId S d).keep hk h⟩
theorem bound_all {P : Nat → Nat → Prop} (hup : ∀ i d d', d ≤ d' → P i d → P i d') : ∀ n : Nat, (∀ i, i < n → ∃ d, P i d) → ∃ D, ∀ i, i < n → P i D
 | 0, _ => ⟨0, fun i h => by omega⟩
 | n + 1, h => by
  obtain ⟨D, hD⟩ := bound_all hup n fun i hi => h i (by omega)
  obtain ⟨d, hd⟩ := h n (by omega)
  refine ⟨max D d, fun i hi => ?_⟩
  rcases Nat.lt_or_ge i n with q | q
  ·exact hup i _ _ (Nat.le_max_left _ _) (hD i q)
  ·have : i = n := by omega
   subst this
   exact hup i _ _ (Nat.le_max_right _ _) hd
section
variable {S : List UInt8 → Int → Prop} {w : World} {ok : Nat → Prop} {v : Value} {xs : List Cd.Item}
theorem RdH.deep (h : RdH (KI S) 114 w ok v xs) : ∃ d, RdH (KId S d) 114 w ok v xs := by
 obtain ⟨A, c, hv, hl, hc, hh⟩ := h
 by_cases h0 : 0 < xs.length
 ·obtain ⟨b, cur, hA, hb, hcur, hcell⟩ := hh h0
  obtain ⟨D, hD⟩ := bound_all (P := fun i d => ∀ a, xs[i]? = some a → ∃ cs, (KId S d).rd w ok cs a ∧ ∀ (j : Nat) (u : Value), cs[j]? = some u → cur[i * 11 + j]? = some u)
   (fun i d d' hd h a ha => by obtain ⟨cs, h1, h2⟩ := h a ha; exact ⟨cs, kid_up (fun _ _ q => q) d d' hd cs a h1, h2⟩) xs.length fun i hi => by
    obtain ⟨cs, ⟨d, h1⟩, h2⟩ := hcell i _ (List.getElem?_eq_getElem hi)
    exact ⟨d, fun a ha => by rw [List.getElem?_eq_getElem hi] at ha; cases ha; exact ⟨cs, h1, h2⟩⟩
  exact ⟨D, A, c, hv, hl, hc, fun _ => ⟨b, cur, hA, hb, hcur, fun i a ha => by rw [kid_size]; exact hD i (List.getElem?_eq_some_iff.1 ha).1 a ha⟩⟩
 ·exact ⟨0, A, c, hv, hl, hc, fun h => absurd h h0⟩
theorem ki_mk {x : Cd.Item} {z : Int} (hz : if x.node.kind = 1 then S x.code z else z = x.node.sign) (h : RdH (KI S) 114 w ok v x.kids) : (KI S).rd w ok (encNz x.node z ++ [.string (Cd.bs x.code), .int .i64 x.pos, v]) x := by
 obtain ⟨d, hd⟩ := h.deep
 exact ⟨d + 1, z, v, rfl, hz, hd⟩
theorem ki_inv {x : Cd.Item} {cs : List Value} (h : (KI S).rd w ok cs x) : ∃ z v, cs = encNz x.node z ++ [.string (Cd.bs x.code), .int .i64 x.pos, v] ∧ (if x.node.kind = 1 then S x.code z else z = x.node.sign) ∧ RdH (KI S) 114 w ok v x.kids := by
 obtain ⟨d, h⟩ := h
 cases d with
 | zero => exact h.elim
 | succ d =>
  obtain ⟨z, v, h0, h1, h2⟩ := h
  exact ⟨z, v, h0, h1, h2.imp (kid_size _ _).symm fun i cs a _ ha => ⟨d, ha⟩⟩
end
def aggI (n : Tx.Node) (z : Int) (c : ByteArray) (p : Int) (v : Value) : Value :=
 .agg #[.int .i64 n.kind, .int .i64 n.depth, .int .i64 z, .int .i64 n.turn, .bool n.mirror, .int .i64 n.state, .int .i64 n.lo, .int .i64 n.hi, .string c, .int .i64 p, v]
def VI (S : List UInt8 → Int → Prop) (w : World) (ok : Nat → Prop) (v : Value) (x : Cd.Item) : Prop :=
 ∃ z A c, v = aggI x.node z (Cd.bs x.code) x.pos (.slice A x.kids.length c) ∧ (if x.node.kind = 1 then S x.code z else z = x.node.sign) ∧ RdH (KI S) 114 w ok (.slice A x.kids.length c) x.kids
theorem VI.keep {S : List UInt8 → Int → Prop} {w w' : World} {ok ok' : Nat → Prop} {v : Value} {x : Cd.Item} (h : VI S w ok v x) (hk : ∀ b, ok b → ok' b ∧ w'.heap[b]? = w.heap[b]?) : VI S w' ok' v x := by
 obtain ⟨z, A, c, h0, h1, h2⟩ := h
 exact ⟨z, A, c, h0, h1, h2.keep hk⟩
def S0 (_ : List UInt8) (z : Int) : Prop := z = 0
structure RdrIs (R : Nat) (cv : Value) (s : ByteArray) (k : Nat) (w : World) : Prop where
 cells : w.heap[R]? = some (.cells #[cv, .string s, .int .i64 k] 109 (0, 0))
 le : k ≤ s.size
theorem RdrIs.at {R : Nat} {cv : Value} {s : ByteArray} {k : Nat} {w : World} (h : RdrIs R cv s k w) : w.cell? ⟨R, 0, none⟩ = some cv ∧ w.cell? ⟨R, 1, none⟩ = some (.string s) ∧ w.cell? ⟨R, 2, none⟩ = some (.int .i64 k) ∧ w.frozen? ⟨R, 2, none⟩ = false ∧ R < w.heap.size := by
 have hh := h.cells
 exact ⟨by simp [World.cell?, hh], by simp [World.cell?, hh], by simp [World.cell?, hh], by simp [World.frozen?, hh], (Array.getElem?_eq_some_iff.1 hh).1⟩
theorem RdrIs.keep {R : Nat} {cv : Value} {s : ByteArray} {k : Nat} {w w' : World} (h : RdrIs R cv s k w) (hk : w'.heap[R]? = w.heap[R]?) : RdrIs R cv s k w' := ⟨hk.trans h.cells, h.le⟩
def chainAt (k : Nat) : List PanicEntry := [{ v := .iface 106 (.agg #[.int .i64 k]), recovered := false }]
def RetP {α : Type} (R : Nat) (cv : Value) (s : ByteArray) (vl : World → (Nat → Prop) → Value → α → Prop) (q : Cd.R α) (w : World) (e : Ending) (w' : World) : Prop :=
 w.grownBy w' (some R) ∧ match q with
  | .bad k => e = .panicked (chainAt k)
  | .ok x k => RdrIs R cv s k w' ∧ ∃ v, e = .returned v ∧ vl w' (fun b => w.heap.size ≤ b ∧ b < w'.heap.size) v x
end Go.Proofs.YtenmkbpdkfhbjaaGreat
