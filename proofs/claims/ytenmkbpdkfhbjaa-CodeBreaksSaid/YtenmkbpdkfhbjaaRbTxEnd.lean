/- Nodes and items of a text in memory.; A text in memory; groups.end. -/
import Derived.Test.YtenmkbpdkfhbjaaRbSgLeaf
import Derived.Test.YtenmkbpdkfhbjaaRbCdRead
import Derived.Deep.DeepCutAuto
import Derived.BigQuiet
namespace Go.Proofs.Ytenmkbpdkfhbjaa
open Go Go.RowKit

/-- bytes as text -/
def Cd.bs (l : List UInt8) : ByteArray := ⟨l.toArray⟩
theorem Cd.bs_list (l : List UInt8) : (Cd.bs l).data.toList = l := rfl
/-- the cells of a node -/
def encNz (n : Tx.Node) (z : Int) : List Value := [.int .i64 n.kind, .int .i64 n.depth, .int .i64 z, .int .i64 n.turn, .bool n.mirror, .int .i64 n.state, .int .i64 n.lo, .int .i64 n.hi]
def encN (n : Tx.Node) : List Value := encNz n n.sign
theorem len_node (n : Tx.Node) : (encN n).length = 8 := rfl
theorem one_node (n : Tx.Node) : ∀ u ∈ encN n, u.oneCell' = true := by intro u hu; simp [encN, encNz] at hu; rcases hu with rfl | rfl | rfl | rfl | rfl | rfl | rfl | rfl <;> rfl
theorem info_Node : (Try.prog.info? 74).map (fun i => (i.zero, i.size, i.bytes)) = some (some (.agg #[.int .i64 0, .int .i64 0, .int .i64 0, .int .i64 0, .bool false, .int .i64 0, .int .i64 0, .int .i64 0]), 8, 64) := by kernel_rfl
theorem info_item : (Try.prog.info? 76).map (fun i => (i.zero, i.size, i.bytes)) = some (some (.agg #[.int .i64 0, .int .i64 0, .int .i64 0, .int .i64 0, .bool false, .int .i64 0, .int .i64 0, .int .i64 0, .string ⟨#[]⟩, .int .i64 0, .slice none 0 0]), 11, 112) := by kernel_rfl
/-- a slice at the head of its block -/
def RdH {α : Type} (K : RowK α) (e : TypeId) (w : World) (ok : Nat → Prop) (v : Value) (xs : List α) : Prop :=
  ∃ A c, v = .slice A xs.length c ∧ xs.length ≤ c ∧ c ≤ 9223372036854775807 ∧
    (0 < xs.length → ∃ b cur, A = some ⟨b, 0, none⟩ ∧ ok b ∧ w.heap[b]? = some (.cells cur e (0, 0)) ∧ ∀ (i : Nat) (a : α), xs[i]? = some a → ∃ cs, K.rd w ok cs a ∧ ∀ (j : Nat) (u : Value), cs[j]? = some u → cur[i * K.size + j]? = some u)
section
variable {α : Type} {K K' : RowK α} {e : TypeId} {w w' : World} {ok ok' : Nat → Prop} {v : Value} {xs : List α}
theorem RdH.keep (h : RdH K e w ok v xs) (hk : ∀ b, ok b → ok' b ∧ w'.heap[b]? = w.heap[b]?) : RdH K e w' ok' v xs := by
  obtain ⟨A, c, hv, hl, hc, hh⟩ := h
  refine ⟨A, c, hv, hl, hc, fun h0 => ?_⟩
  obtain ⟨b, cur, hA, hb, hcur, hcell⟩ := hh h0
  refine ⟨b, cur, hA, (hk b hb).1, (hk b hb).2.trans hcur, fun i a ha => ?_⟩
  obtain ⟨cs, h1, h2⟩ := hcell i a ha
  exact ⟨cs, K.keep hk h1, h2⟩
theorem RdH.imp (h : RdH K e w ok v xs) (hs : K'.size = K.size) (hr : ∀ (i : Nat) cs a, xs[i]? = some a → K.rd w ok cs a → K'.rd w ok cs a) : RdH K' e w ok v xs := by
  obtain ⟨A, c, hv, hl, hc, hh⟩ := h
  refine ⟨A, c, hv, hl, hc, fun h0 => ?_⟩
  obtain ⟨b, cur, hA, hb, hcur, hcell⟩ := hh h0
  refine ⟨b, cur, hA, hb, hcur, fun i a ha => ?_⟩
  obtain ⟨cs, h1, h2⟩ := hcell i a ha
  exact ⟨cs, hr i cs a ha h1, by rw [hs]; exact h2⟩
theorem RdH.form (h : RdH K e w ok v xs) : ∃ A c, v = .slice A xs.length c := by
  obtain ⟨A, c, hv, _⟩ := h
  exact ⟨A, c, hv⟩
theorem RdH.nil (e : TypeId) (w : World) (ok : Nat → Prop) : RdH K e w ok (.slice none 0 0) [] := ⟨none, 0, rfl, by simp, by omega, fun h => absurd h (by simp)⟩
theorem RdH.rd (h : RdH K e w ok v xs) : RdG K w ok v xs := by
  obtain ⟨A, c, hv, hl, hc, hh⟩ := h
  refine ⟨A, c, hv, hl, hc, fun h0 => ?_⟩
  obtain ⟨b, cur, hA, hb, hcur, hcell⟩ := hh h0
  refine ⟨b, 0, hA, hb, fun i a ha => ?_⟩
  obtain ⟨cs, h1, h2⟩ := hcell i a ha
  refine ⟨cs, h1, fun j u hj => ?_⟩
  have := h2 j u hj
  simp only [World.cell?, hcur, Nat.zero_add]
  exact this
/-- what the call owns, as it is read -/
theorem OwnG.head {base : Nat} (h : OwnG K e w base v xs) : RdH K e w (fun b => b < w.heap.size ∧ base ≤ b) v xs := by
  obtain ⟨cells, h1, h2⟩ := h
  obtain ⟨_, h3⟩ := id h1
  rcases h3 with ⟨rfl, h0⟩ | ⟨g, cap, cur, rfl, hg, hh, hle, hm, hs, ht⟩
  · exact ⟨none, 0, by rw [h0], by omega, by omega, fun hp => by omega⟩
  · refine ⟨some ⟨g, 0, none⟩, cap, rfl, hle, by simpa [maxLen] using hm, fun _ => ⟨g, cur, rfl, ⟨(h1.lt g rfl).2, hg⟩, hh, fun i a hi => ?_⟩⟩
    obtain ⟨cs, e1, e2⟩ := h2.at hi
    refine ⟨cs, K.keep (fun b hb => ⟨⟨hb.1, hb.2.2⟩, rfl⟩) e1, fun j u hj => ?_⟩
    have h5 := e2 j u hj
    rw [← ht, List.getElem?_take] at h5
    split at h5
    · simpa using h5
    · cases h5
end

/-- an item: S says which sign stands in a glyph that was read with a code; d: how deep it is at most -/
def KId (S : List UInt8 → Int → Prop) : Nat → RowK Cd.Item
  | 0 => ⟨11, fun _ _ _ _ => False, fun h => h.elim, fun _ h => h.elim⟩
  | d + 1 => ⟨11, fun w ok cs x => ∃ z v, cs = encNz x.node z ++ [.string (Cd.bs x.code), .int .i64 x.pos, v] ∧ (if x.node.kind = 1 then S x.code z else z = x.node.sign) ∧ RdH (KId S d) 76 w ok v x.kids,
    by rintro w ok cs x ⟨z, v, rfl, _⟩; rfl, by rintro w w' ok ok' cs x hk ⟨z, v, rfl, h1, h2⟩; exact ⟨z, v, rfl, h1, h2.keep hk⟩⟩
theorem kid_size (S : List UInt8 → Int → Prop) (d : Nat) : (KId S d).size = 11 := by cases d <;> rfl
theorem kid_up {S S' : List UInt8 → Int → Prop} (hS : ∀ c z, S c z → S' c z) {w : World} {ok : Nat → Prop} : ∀ (d d' : Nat), d ≤ d' → ∀ cs x, (KId S d).rd w ok cs x → (KId S' d').rd w ok cs x
  | 0, _, _, _, _, h => h.elim
  | d + 1, 0, h, _, _, _ => by omega
  | d + 1, d' + 1, hd, cs, x, ⟨z, v, h0, h1, h2⟩ => by
    refine ⟨z, v, h0, ?_, h2.imp ((kid_size _ _).trans (kid_size _ _).symm) fun i cs a _ ha => kid_up hS d d' (by omega) cs a ha⟩
    split at h1
    · rename_i h; rw [if_pos h]; exact hS _ _ h1
    · rename_i h; rw [if_neg h]; exact h1
def KI (S : List UInt8 → Int → Prop) : RowK Cd.Item where
  size := 11
  rd w ok cs x := ∃ d, (KId S d).rd w ok cs x
  len := by rintro w ok cs x ⟨d, h⟩; exact ((KId S d).len h).trans (kid_size S d)
  keep := by rintro w w' ok ok' cs x hk ⟨d, h⟩; exact ⟨d, (KId S d).keep hk h⟩
theorem bound_all {P : Nat → Nat → Prop} (hup : ∀ i d d', d ≤ d' → P i d → P i d') : ∀ n : Nat, (∀ i, i < n → ∃ d, P i d) → ∃ D, ∀ i, i < n → P i D
  | 0, _ => ⟨0, fun i h => by omega⟩
  | n + 1, h => by
    obtain ⟨D, hD⟩ := bound_all hup n fun i hi => h i (by omega)
    obtain ⟨d, hd⟩ := h n (by omega)
    refine ⟨max D d, fun i hi => ?_⟩
    rcases Nat.lt_or_ge i n with q | q
    · exact hup i _ _ (Nat.le_max_left _ _) (hD i q)
    · have : i = n := by omega
      subst this
      exact hup i _ _ (Nat.le_max_right _ _) hd
section
variable {S : List UInt8 → Int → Prop} {w : World} {ok : Nat → Prop} {v : Value} {xs : List Cd.Item}
theorem RdH.deep (h : RdH (KI S) 76 w ok v xs) : ∃ d, RdH (KId S d) 76 w ok v xs := by
  obtain ⟨A, c, hv, hl, hc, hh⟩ := h
  by_cases h0 : 0 < xs.length
  · obtain ⟨b, cur, hA, hb, hcur, hcell⟩ := hh h0
    obtain ⟨D, hD⟩ := bound_all (P := fun i d => ∀ a, xs[i]? = some a → ∃ cs, (KId S d).rd w ok cs a ∧ ∀ (j : Nat) (u : Value), cs[j]? = some u → cur[i * 11 + j]? = some u)
      (fun i d d' hd h a ha => by obtain ⟨cs, h1, h2⟩ := h a ha; exact ⟨cs, kid_up (fun _ _ q => q) d d' hd cs a h1, h2⟩) xs.length fun i hi => by
        obtain ⟨cs, ⟨d, h1⟩, h2⟩ := hcell i _ (List.getElem?_eq_getElem hi)
        exact ⟨d, fun a ha => by rw [List.getElem?_eq_getElem hi] at ha; cases ha; exact ⟨cs, h1, h2⟩⟩
    exact ⟨D, A, c, hv, hl, hc, fun _ => ⟨b, cur, hA, hb, hcur, fun i a ha => by rw [kid_size]; exact hD i (List.getElem?_eq_some_iff.1 ha).1 a ha⟩⟩
  · exact ⟨0, A, c, hv, hl, hc, fun h => absurd h h0⟩
theorem ki_mk {x : Cd.Item} {z : Int} (hz : if x.node.kind = 1 then S x.code z else z = x.node.sign) (h : RdH (KI S) 76 w ok v x.kids) : (KI S).rd w ok (encNz x.node z ++ [.string (Cd.bs x.code), .int .i64 x.pos, v]) x := by
  obtain ⟨d, hd⟩ := h.deep
  exact ⟨d + 1, z, v, rfl, hz, hd⟩
theorem ki_inv {x : Cd.Item} {cs : List Value} (h : (KI S).rd w ok cs x) : ∃ z v, cs = encNz x.node z ++ [.string (Cd.bs x.code), .int .i64 x.pos, v] ∧ (if x.node.kind = 1 then S x.code z else z = x.node.sign) ∧ RdH (KI S) 76 w ok v x.kids := by
  obtain ⟨d, h⟩ := h
  cases d with
  | zero => exact h.elim
  | succ d =>
    obtain ⟨z, v, h0, h1, h2⟩ := h
    exact ⟨z, v, h0, h1, h2.imp (kid_size _ _).symm fun i cs a _ ha => ⟨d, ha⟩⟩
end
/-- an item as a value -/
def aggI (n : Tx.Node) (z : Int) (c : ByteArray) (p : Int) (v : Value) : Value :=
  .agg #[.int .i64 n.kind, .int .i64 n.depth, .int .i64 z, .int .i64 n.turn, .bool n.mirror, .int .i64 n.state, .int .i64 n.lo, .int .i64 n.hi, .string c, .int .i64 p, v]
def VI (S : List UInt8 → Int → Prop) (w : World) (ok : Nat → Prop) (v : Value) (x : Cd.Item) : Prop :=
  ∃ z A c, v = aggI x.node z (Cd.bs x.code) x.pos (.slice A x.kids.length c) ∧ (if x.node.kind = 1 then S x.code z else z = x.node.sign) ∧ RdH (KI S) 76 w ok (.slice A x.kids.length c) x.kids
theorem VI.keep {S : List UInt8 → Int → Prop} {w w' : World} {ok ok' : Nat → Prop} {v : Value} {x : Cd.Item} (h : VI S w ok v x) (hk : ∀ b, ok b → ok' b ∧ w'.heap[b]? = w.heap[b]?) : VI S w' ok' v x := by
  obtain ⟨z, A, c, h0, h1, h2⟩ := h
  exact ⟨z, A, c, h0, h1, h2.keep hk⟩
/-- the sign of a glyph that was just read -/
def S0 (_ : List UInt8) (z : Int) : Prop := z = 0
/-- a reader at a place -/
structure RdrIs (R : Nat) (cv : Value) (s : ByteArray) (k : Nat) (w : World) : Prop where
  cells : w.heap[R]? = some (.cells #[cv, .string s, .int .i64 k] 69 (0, 0))
  le : k ≤ s.size
theorem RdrIs.at {R : Nat} {cv : Value} {s : ByteArray} {k : Nat} {w : World} (h : RdrIs R cv s k w) : w.cell? ⟨R, 0, none⟩ = some cv ∧ w.cell? ⟨R, 1, none⟩ = some (.string s) ∧ w.cell? ⟨R, 2, none⟩ = some (.int .i64 k) ∧ w.frozen? ⟨R, 2, none⟩ = false ∧ R < w.heap.size := by
  have hh := h.cells
  exact ⟨by simp [World.cell?, hh], by simp [World.cell?, hh], by simp [World.cell?, hh], by simp [World.frozen?, hh], (Array.getElem?_eq_some_iff.1 hh).1⟩
theorem RdrIs.keep {R : Nat} {cv : Value} {s : ByteArray} {k : Nat} {w w' : World} (h : RdrIs R cv s k w) (hk : w'.heap[R]? = w.heap[R]?) : RdrIs R cv s k w' := ⟨hk.trans h.cells, h.le⟩
/-- how a reader panics -/
def chainAt (k : Nat) : List PanicEntry := [{ v := .iface 66 (.agg #[.int .i64 k]), recovered := false }]
/-- what a part of the reader does: it panics, or it returns and stands behind what it read -/
def RetP {α : Type} (R : Nat) (cv : Value) (s : ByteArray) (vl : World → (Nat → Prop) → Value → α → Prop) (q : Cd.R α) (w : World) (e : Ending) (w' : World) : Prop :=
  w.grownBy w' (some R) ∧ match q with
    | .bad k => e = .panicked (chainAt k)
    | .ok x k => RdrIs R cv s k w' ∧ ∃ v, e = .returned v ∧ vl w' (fun b => w.heap.size ≤ b ∧ b < w'.heap.size) v x
end Go.Proofs.Ytenmkbpdkfhbjaa
namespace Tx
/-- behind a node, one further: does the scan go on -/
theorem end_more {ns : List Node} {i m : Nat} (hm : i + 1 + m ≤ endV ns i) : i + 1 + m < endV ns i ↔ (i + 1 + m < ns.length ∧ dp ns i < dp ns (i + 1 + m)) := by
  constructor
  · exact fun h => end_in (by omega) h
  · intro ⟨h1, h2⟩
    refine Nat.lt_of_le_of_ne hm fun e => ?_
    have := end_at (ns := ns) (i := i) (by omega)
    rw [← e] at this
    omega
theorem nd_at {ns : List Node} {i : Nat} (h : i < ns.length) : ns[i]? = some (nd ns i) := by
  unfold nd
  rw [List.getElem?_eq_getElem h]
  rfl
end Tx
namespace Go.Proofs.Ytenmkbpdkfhbjaa
open Go Go.RowKit

/-- a list of nodes in memory -/
abbrev RdN (w : World) (B : Nat) (v : Value) (ns : List Tx.Node) : Prop := RdS w B 8 encN v ns
theorem RdN.eight {w : World} {B : Nat} {A : Option Addr} {n c : Nat} {ns : List Tx.Node} (h : RdN w B (.slice A n c) ns) (h0 : 0 < ns.length) :
    ∃ b off, A = some ⟨b, off, none⟩ ∧ b < B ∧ ∀ i, i < ns.length → w.cell? ⟨b, off + i * 8, none⟩ = some (.int .i64 (Tx.nd ns i).kind) ∧ w.cell? ⟨b, off + i * 8 + 1, none⟩ = some (.int .i64 (Tx.nd ns i).depth) ∧ w.cell? ⟨b, off + i * 8 + 2, none⟩ = some (.int .i64 (Tx.nd ns i).sign) ∧ w.cell? ⟨b, off + i * 8 + 3, none⟩ = some (.int .i64 (Tx.nd ns i).turn) ∧
      w.cell? ⟨b, off + i * 8 + 4, none⟩ = some (.bool (Tx.nd ns i).mirror) ∧ w.cell? ⟨b, off + i * 8 + 5, none⟩ = some (.int .i64 (Tx.nd ns i).state) ∧ w.cell? ⟨b, off + i * 8 + 6, none⟩ = some (.int .i64 (Tx.nd ns i).lo) ∧ w.cell? ⟨b, off + i * 8 + 7, none⟩ = some (.int .i64 (Tx.nd ns i).hi) := by
  obtain ⟨A', c', hv, _, _, hh⟩ := h
  cases hv
  obtain ⟨b, off, rfl, hb, hcell⟩ := hh h0
  refine ⟨b, off, rfl, hb, fun i hi => ?_⟩
  have h := hcell i _ (Tx.nd_at hi)
  refine ⟨?_, h 1 _ rfl, h 2 _ rfl, h 3 _ rfl, h 4 _ rfl, h 5 _ rfl, h 6 _ rfl, h 7 _ rfl⟩
  have := h 0 _ rfl
  simpa using this
def RetEnd (ns : List Tx.Node) (i : Nat) (w : World) (e : Ending) (w' : World) : Prop := e = .returned (.int .i64 (Tx.endV ns i : Int)) ∧ ∃ n, w' = w.drewN n
set_option maxRecDepth 100000 in
set_option maxHeartbeats 8000000 in
theorem end_any (w : World) (B : Nat) (A : Option Addr) (c : Nat) (ns : List Tx.Node) (i : Nat) (h : RdN w B (.slice A ns.length c) ns) (hi : i < ns.length) (hn : ns.length ≤ 1000000) :
    Calls Try.prog 37 #[.slice A ns.length c, .int .i64 i] w (RetEnd ns i w) := by
  obtain ⟨b, off, rfl, -, hcell⟩ := RdN.eight h (by omega)
  have HC := Lib.hid hcell
  have HI := Lib.hid hi
  have hiI : (i : Int) < (ns.length : Int) := by omega
  have hnI : (ns.length : Int) ≤ 1000000 := by omega
  have hle : Tx.endV ns i ≤ ns.length := Tx.end_le hi
  have hgt := Tx.end_gt ns i
  obtain ⟨en, hen⟩ : ∃ en, en = Tx.endV ns i := ⟨_, rfl⟩
  rw [← hen] at hle hgt
  have HEN := Lib.hid hen
  clear h hcell hen
  have HRES : Hid (∀ w', (∃ n, w' = w.drewN n) → RetEnd ns i w (.returned (.int .i64 (en : Int))) w') := Lib.hid fun w' hw => ⟨by rw [HEN.out], hw⟩
  go_enter Try.func37, Try.ntmps37
  go_wp2_with fail
  go_loopg [5] (en - (i + 1)) (fun g v wr => ∃ k : Nat, i < k ∧ k ≤ en ∧ g = en - k ∧ v = .int .i64 (k : Int) ∧ ∃ n, wr = w.drewN n)
  case atStart => exact ⟨i + 1, by omega, by omega, rfl, rfl, 0, rfl⟩
  case round =>
    obtain ⟨k, hk, hke, rfl, rfl, n, rfl⟩ := hrel
    have hmore : k < en ↔ (k < ns.length ∧ Tx.dp ns i < Tx.dp ns k) := by
      have := Tx.end_more (ns := ns) (i := i) (m := k - (i + 1)) (by rw [← HEN.out]; omega)
      rw [← HEN.out, show i + 1 + (k - (i + 1)) = k by omega] at this
      exact this
    by_cases hkl : k < ns.length
    · have hklI : (k : Int) < (ns.length : Int) := by omega
      have f0 := (HC.out i HI.out).2.1
      have f1 := (HC.out k hkl).2.1
      have hg : decide ((k : Int) < (ns.length : Int)) = true := by simpa using hkl
      have hk0 : (0 : Int) ≤ (k : Int) := by omega
      by_cases hd : Tx.dp ns i < Tx.dp ns k
      · have hlt : k < en := hmore.2 ⟨hkl, hd⟩
        have d1 : decide ((Tx.nd ns i).depth < (Tx.nd ns k).depth) = true := decide_eq_true hd
        clear hd hmore
        go_upto_region 2 with fail
        go_quiet (fail)
        go_wp2_with fail
        go_roundg (en - (k + 1))
        case measure => omega
        case rel => exact ⟨k + 1, by omega, by omega, rfl, by go_num, _, rfl⟩
      · have hEQ : k = en := by
          refine Nat.le_antisymm hke (Nat.le_of_not_lt fun q => hd (hmore.1 q).2)
        have HEQ := Lib.hid hEQ
        have d1 : decide ((Tx.nd ns i).depth < (Tx.nd ns k).depth) = false := decide_eq_false hd
        clear hd hmore hEQ hgt hle hke
        go_upto_region 2 with fail
        go_quiet (fail)
        go_wp2_with fail
        go_ret
        rw [HEQ.out]
        exact HRES.out _ ⟨_, World.drewN_drewN _ _ _⟩
    · have hg : decide ((k : Int) < (ns.length : Int)) = false := by simpa using hkl
      have HEQ : Hid (k = en) := Lib.hid (by omega)
      clear hmore hgt hle hke
      go_upto_region 2 with fail
      go_quiet (fail)
      go_wp2_with fail
      go_ret
      rw [HEQ.out]
      exact HRES.out _ ⟨_, World.drewN_drewN _ _ _⟩
end Go.Proofs.Ytenmkbpdkfhbjaa
