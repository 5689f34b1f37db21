/- How data lie in memory.; A region that draws its order: one invariant over 'what has been done' serves every order.; Rows of the call's own, and slices that read as lists. -/
import Derived.Test.YtenmkbpdkfhbjaaProg
import Derived.WalkKit
import Derived.WalkLawsBesides
import Derived.WalkSpells
import Derived.Lib.Hide
import Derived.Test.YtenmkbpdkfhbjaaRbSgPlain
import Derived.Maps.AppendAt
import Derived.Deep.AppendLies
import Derived.RegionTactic
import Derived.OwnWalk
namespace Go.Proofs.Ytenmkbpdkfhbjaa
open Go.RowKit


/-- The slice value v holds the rows of xs (each of 'size' cells), below block B. -/
def RdS {α : Type} (w : World) (B size : Nat) (enc : α → List Value) (v : Value) (xs : List α) : Prop :=
  ∃ A c, v = .slice A xs.length c ∧ xs.length ≤ c ∧ c ≤ 9223372036854775807 ∧
    (0 < xs.length → ∃ b off, A = some ⟨b, off, none⟩ ∧ b < B ∧ ∀ i x, xs[i]? = some x → ∀ j u, (enc x)[j]? = some u → w.cell? ⟨b, off + i * size + j, none⟩ = some u)

section
variable {α : Type} {w w' : World} {B B' size : Nat} {enc : α → List Value} {v : Value} {xs : List α}
theorem RdS.keep (h : RdS w B size enc v xs) (hk : ∀ p : Addr, p.block < B → w'.cell? p = w.cell? p) : RdS w' B size enc v xs := by
  obtain ⟨A, c, hv, hl, hc, hh⟩ := h
  refine ⟨A, c, hv, hl, hc, fun h0 => ?_⟩
  obtain ⟨b, off, hA, hb, hcell⟩ := hh h0
  exact ⟨b, off, hA, hb, fun i x hx j u hu => (hk _ hb).trans (hcell i x hx j u hu)⟩
theorem RdS.below (h : RdS w B size enc v xs) (hb : Below B w w') : RdS w' B size enc v xs := h.keep fun _ hp => hb.cell hp
theorem RdS.more (h : RdS w B size enc v xs) (hB : B ≤ B') : RdS w B' size enc v xs := by
  obtain ⟨A, c, hv, hl, hc, hh⟩ := h
  refine ⟨A, c, hv, hl, hc, fun h0 => ?_⟩
  obtain ⟨b, off, hA, hb, hcell⟩ := hh h0
  exact ⟨b, off, hA, by omega, hcell⟩
end

def encEntry (e : Lx.Entry) : List Value := [.string e.root, .int .i64 e.kind, .string e.cls, .int .i64 e.weight]
def encEnding (e : Lx.Ending) : List Value := [.int .i64 e.kind, .string e.text, .string e.name, .int .i64 e.weight]
def encClitic (e : Lx.Clitic) : List Value := [.string e.text, .string e.name, .int .i64 e.weight]
def encInt (n : Int) : List Value := [.int .i64 n]

/-- strings and numbers within what the machine holds -/
def Lx.Entry.fits (e : Lx.Entry) : Prop := e.root.size ≤ maxLen ∧ e.cls.size ≤ maxLen
def Lx.Ending.fits (e : Lx.Ending) : Prop := e.text.size ≤ maxLen ∧ e.name.size ≤ maxLen
def Lx.Clitic.fits (e : Lx.Clitic) : Prop := e.text.size ≤ maxLen ∧ e.name.size ≤ maxLen

structure RdL (w : World) (B : Nat) (v : Value) (x : Lx.Lexicon) : Prop where
  ex : ∃ v0 v1 v2, v = .agg #[v0, v1, v2] ∧ RdS w B 4 encEntry v0 x.entries ∧ RdS w B 4 encEnding v1 x.endings ∧ RdS w B 3 encClitic v2 x.clitics
  fe : ∀ e ∈ x.entries, Lx.Entry.fits e
  fn : ∀ e ∈ x.endings, Lx.Ending.fits e
  fc : ∀ e ∈ x.clitics, Lx.Clitic.fits e
theorem RdL.keep {w w' : World} {B : Nat} {v : Value} {x : Lx.Lexicon} (h : RdL w B v x) (hk : ∀ p : Addr, p.block < B → w'.cell? p = w.cell? p) : RdL w' B v x := by
  obtain ⟨⟨v0, v1, v2, hv, h0, h1, h2⟩, a, b, c⟩ := h
  exact ⟨⟨v0, v1, v2, hv, h0.keep hk, h1.keep hk, h2.keep hk⟩, a, b, c⟩
theorem RdL.below {w w' : World} {B : Nat} {v : Value} {x : Lx.Lexicon} (h : RdL w B v x) (hb : Below B w w') : RdL w' B v x := h.keep fun _ hp => hb.cell hp
theorem RdL.more {w : World} {B B' : Nat} {v : Value} {x : Lx.Lexicon} (h : RdL w B v x) (hB : B ≤ B') : RdL w B' v x := by
  obtain ⟨⟨v0, v1, v2, hv, h0, h1, h2⟩, a, b, c⟩ := h
  exact ⟨⟨v0, v1, v2, hv, h0.more hB, h1.more hB, h2.more hB⟩, a, b, c⟩
/-- a form -/
structure RdF (w : World) (B : Nat) (v : Value) (f : Lx.Form) : Prop where
  ex : ∃ s, v = .agg #[.int .i64 f.entry, .int .i64 f.ending, s] ∧ RdS w B 1 encInt s f.clitics
theorem RdF.keep {w w' : World} {B : Nat} {v : Value} {f : Lx.Form} (h : RdF w B v f) (hk : ∀ p : Addr, p.block < B → w'.cell? p = w.cell? p) : RdF w' B v f := by
  obtain ⟨⟨s, hv, h0⟩⟩ := h
  exact ⟨⟨s, hv, h0.keep hk⟩⟩
theorem RdF.below {w w' : World} {B : Nat} {v : Value} {f : Lx.Form} (h : RdF w B v f) (hb : Below B w w') : RdF w' B v f := h.keep fun _ hp => hb.cell hp
theorem RdF.more {w : World} {B B' : Nat} {v : Value} {f : Lx.Form} (h : RdF w B v f) (hB : B ≤ B') : RdF w B' v f := by
  obtain ⟨⟨s, hv, h0⟩⟩ := h
  exact ⟨⟨s, hv, h0.more hB⟩⟩
end Go.Proofs.Ytenmkbpdkfhbjaa
namespace Go.Proofs.Ytenmkbpdkfhbjaa
open Go Go.RowKit

section
variable {P : Program} {ops : Array Oper} {Q : Exit → Act → World → Prop} {md : Region.Mode}

theorem count_set {l : Array Bool} {i : Nat} (h : l.getD i true = false) : (l.setIfInBounds i true).toList.count false + 1 = l.toList.count false := by
  have hi : i < l.size := by
    rcases Nat.lt_or_ge i l.size with h1 | h1
    · exact h1
    · simp [Array.getD, Nat.not_lt.2 h1] at h
  have hli : l.toList[i]'(by simpa using hi) = false := by
    simp [Array.getD, hi] at h
    simpa using h
  have hp : 0 < l.toList.count false := List.count_pos_iff.2 (by have := List.getElem_mem (l := l.toList) (n := i) (by simpa using hi); rwa [hli] at this)
  rw [Array.toList_setIfInBounds, List.count_set (by simpa using hi), hli]
  simp only [beq_self_eq_true, if_true, show (true == false) = false from rfl, Bool.false_eq_true, if_false]
  omega

theorem mem_ready {l : Array Bool} {i : Nat} (h : i ∈ Region.ready md ops l) : i < ops.size ∧ l.getD i true = false ∧ ∀ o, ops[i]? = some o → ∀ e ∈ o.after, Region.binds md e = true → l.getD e.on false = true := by
  unfold Region.ready at h
  rw [List.mem_filter, List.mem_range] at h
  obtain ⟨h1, h2⟩ := h
  simp only [Bool.and_eq_true, Bool.not_eq_true'] at h2
  refine ⟨h1, h2.1, fun o ho e he hb => ?_⟩
  have h3 := h2.2
  rw [ho] at h3
  simp only [Option.map_some, Option.getD_some] at h3
  have h4 := Array.all_eq_true'.1 h3 e he
  rw [hb] at h4
  simpa using h4





theorem wpOp_plain {i : Nat} {o : Oper} {K : Act → World → Prop} {a : Act} {w : World} (ho : ops[i]? = some o) (hg : o.guard = none) (h : o.wp P a w K Q) : wpOp P ops Q i K a w := by
  unfold wpOp
  rw [ho]
  simp only [Region.wanted, hg, if_true]
  exact .inl h
theorem wpOp_guard {i : Nat} {o : Oper} {K : Act → World → Prop} {a : Act} {w : World} (ho : ops[i]? = some o) (hg : Region.wanted o (yielded ops a.tmps) = true) (h : o.wp P a w K Q) : wpOp P ops Q i K a w := by
  unfold wpOp
  rw [ho]
  simp only [hg, if_true]
  exact .inl h
theorem wanted_of {t : Array Value} {o : Oper} {g d : Nat} {b : Bool} (hg : o.guard = some (g, b)) (hx : (ops[g]?).bind (·.dst) = some d) (h : t[d]? = some (.bool b)) : Region.wanted o (yielded ops t) = true := by
  simp [Region.wanted, hg, yielded, hx, h]
theorem set_same {t : Array Value} {d : Nat} {v : Value} (h : d < t.size) : (t.setIfInBounds d v)[d]? = some v := by simp [h]
theorem set_other {t : Array Value} {d k : Nat} {v : Value} (h : k ≠ d) : (t.setIfInBounds d v)[k]? = t[k]? := by
  simp [Ne.symm h]
theorem getD_set {l : Array Bool} {i j : Nat} (hi : i < l.size) : (l.setIfInBounds i true).getD j false = true ↔ j = i ∨ l.getD j false = true := by
  by_cases h : j = i
  · subst h; simp [Array.getD, hi]
  · have : (l.setIfInBounds i true).getD j false = l.getD j false := by
      by_cases hj : j < l.size
      · simp [Array.getD, hj, Ne.symm h]
      · simp [Array.getD, hj]
    rw [this]
    simp [h]
end
end Go.Proofs.Ytenmkbpdkfhbjaa
namespace Go.Proofs.Ytenmkbpdkfhbjaa
open Go.RowKit

section
variable {α : Type} {enc : α → List Value} {size : Nat}
theorem flat_len (hu : ∀ x, (enc x).length = size) (xs : List α) : (xs.flatMap enc).length = xs.length * size := by
  induction xs with
  | nil => simp
  | cons x r ih => rw [List.flatMap_cons, List.length_append, hu, ih, List.length_cons, Nat.succ_mul, Nat.add_comm]
theorem flat_at (hu : ∀ x, (enc x).length = size) : ∀ (xs : List α) (i : Nat) (x : α), xs[i]? = some x → ∀ (j : Nat) (u : Value), (enc x)[j]? = some u → (xs.flatMap enc)[i * size + j]? = some u := by
  intro xs
  induction xs with
  | nil => intro i x h; simp at h
  | cons y r ih =>
    intro i x h j u hj
    rw [List.flatMap_cons]
    cases i with
    | zero =>
      simp at h
      subst h
      have hl : j < (enc y).length := (List.getElem?_eq_some_iff.1 hj).1
      rw [Nat.zero_mul, Nat.zero_add, List.getElem?_append_left hl]
      exact hj
    | succ i =>
      simp at h
      rw [List.getElem?_append_right (by rw [hu, Nat.succ_mul]; omega), hu]
      have : (i + 1) * size + j - size = i * size + j := by rw [Nat.succ_mul]; omega
      rw [this]
      exact ih i x h j u hj
theorem flat_inv (hu : ∀ x, (enc x).length = size) : ∀ (xs : List α) (k : Nat) (u : Value), (xs.flatMap enc)[k]? = some u → ∃ i j x, xs[i]? = some x ∧ (enc x)[j]? = some u ∧ k = i * size + j := by
  intro xs
  induction xs with
  | nil => intro k u h; simp at h
  | cons y r ih =>
    intro k u h
    rw [List.flatMap_cons] at h
    by_cases hk : k < size
    · rw [List.getElem?_append_left (by rw [hu]; exact hk)] at h
      exact ⟨0, k, y, by simp, h, by simp⟩
    · rw [List.getElem?_append_right (by rw [hu]; omega), hu] at h
      obtain ⟨i, j, x, h1, h2, h3⟩ := ih _ _ h
      exact ⟨i + 1, j, x, by simpa using h1, h2, by rw [Nat.succ_mul]; omega⟩
theorem addr_add (b off n : Nat) : (⟨b, off, none⟩ : Addr).add n = ⟨b, off + n, none⟩ := by
  unfold Addr.add
  split
  · subst_vars; rfl
  · rfl

/-- What the call owns reads as a list. -/
theorem rds_of_own {w : World} {base : Nat} {e : TypeId} {v : Value} {xs : List α} (hu : ∀ x, (enc x).length = size) (h : w.ownsRow base e size v xs.length (xs.flatMap enc)) : RdS w w.heap.size size enc v xs := by
  obtain ⟨_, h2⟩ := id h
  rcases h2 with ⟨rfl, h0⟩ | ⟨g, cap, cur, rfl, hg, hh, hle, hm, hs, ht⟩
  · exact ⟨none, 0, by rw [h0], by omega, by omega, fun hp => by omega⟩
  · refine ⟨some ⟨g, 0, none⟩, cap, rfl, hle, by simpa [maxLen] using hm, fun _ => ⟨g, 0, rfl, ?_, fun i x hx j u hj => ?_⟩⟩
    · exact (h.lt g rfl).2
    · have := h.cells rfl (i * size + j) u (flat_at hu xs i x hx j u hj)
      rw [addr_add] at this
      rw [← this, Nat.add_assoc]

variable {P : Program} (w : World)
theorem append_of_none (base : Nat) (t ty e : TypeId) (i : TypeInfo) (ht : P.underlying t = some (.slice e)) (hi : P.info? e = some i)
    (v : Value) (n : Nat) (xs : List Value) (hown : w.ownsRow base e size v n xs) (c : Nat) : (Builtin.append_ #[t, t] ty #[v, .slice none 0 c]).run P w = .ok v w := by
  rcases hown.2 with ⟨rfl, rfl⟩ | ⟨g, cap, cur, rfl, _, _, hnc, _⟩
  · simp [Builtin.append_, run_underlying ht, sizeOf, typeInfo, hi, Builtin.lenOf, Builtin.firstCells]
  · simp [Builtin.append_, run_underlying ht, sizeOf, typeInfo, hi, Builtin.lenOf, Builtin.firstCells, hnc, storeCells]

/-- append of a slice that reads as a list (nil, too) onto a row of the call's own -/
theorem run_append_rd (base : Nat) (t ty e : TypeId) (i : TypeInfo) (z : Value) (size bytes : Nat) (hu : ∀ x, (enc x).length = size) (h1 : ∀ x, ∀ u ∈ enc x, u.oneCell' = true)
    (ht : P.underlying t = some (.slice e)) (hi : P.info? e = some i) (hz : i.zero = some z)
    (hsize : i.size = size) (hby : i.bytes = bytes) (hzs : z.cells.size = size) (hsz : 0 < size)
    (v : Value) (n : Nat) (xs : List Value) (hown : w.ownsRow base e size v n xs) (B : Nat) (s : Value) (ys : List α) (hr : RdS w B size enc s ys)
    (h63 : n + ys.length ≤ maxLen) (hbytes : (n + ys.length) * bytes ≤ 140737488355328) (hbase : base ≤ w.heap.size) :
    ∃ v' w', (Builtin.append_ #[t, t] ty #[v, s]).run P w = .ok v' w' ∧ w'.ownsRow base e size v' (n + ys.length) (xs ++ ys.flatMap enc) ∧ w.grownBy w' v.ownBlock ∧
      (v'.ownBlock = v.ownBlock ∨ v'.ownBlock = some w.heap.size) := by
  obtain ⟨A, c, rfl, hl, hc, hh⟩ := hr
  have h1' : ∀ u ∈ ys.flatMap enc, u.oneCell' = true := by
    intro u hm
    obtain ⟨x, _, hx⟩ := List.mem_flatMap.1 hm
    exact h1 x u hx
  cases hA : A with
  | none =>
    have h0 : ys = [] := by
      cases ys with
      | nil => rfl
      | cons y r =>
        obtain ⟨b, off, h, _⟩ := hh (by simp)
        rw [hA] at h
        cases h
    subst h0
    exact ⟨v, w, append_of_none w base t ty e i ht hi v n xs hown c, by simpa using hown, World.grownBy.refl w _, .inl rfl⟩
  | some a =>
    have hn : ∀ j u, (ys.flatMap enc)[j]? = some u → w.cell? (a.add j) = some u := by
      intro j u hj
      obtain ⟨i', j', x, hx, hj', rfl⟩ := flat_inv hu ys j u hj
      obtain ⟨b, off, hA', hb, hcell⟩ := hh (by
        have := (List.getElem?_eq_some_iff.1 hx).1
        omega)
      rw [hA] at hA'
      cases hA'
      rw [addr_add, ← Nat.add_assoc]
      exact hcell i' x hx j' u hj'
    obtain ⟨v', w', hrun, h2, h3, _, h5⟩ := run_append_own_at (P := P) w base t ty e i z size bytes ht hi hz hsize hby hzs hsz v n xs hown a ys.length c (ys.flatMap enc) (flat_len hu ys) hn h1' h63 hbytes hbase
    exact ⟨v', w', hrun, h2, h3, h5⟩
end

section
variable {α : Type} {enc : α → List Value} {P : Program} {w : World}
theorem wp_append_rd {o : Oper} {a : Act} {K : Act → World → Prop} {Q : Exit → Act → World → Prop} (s x : Operand) (t : TypeId)
    (ho : o.op = .call { callee := .builtin .append, args := #[s, x], argTypes := #[t, t] })
    (base : Nat) (e : TypeId) (i : TypeInfo) (z : Value) (size bytes : Nat) (hu : ∀ x, (enc x).length = size) (h1 : ∀ x, ∀ u ∈ enc x, u.oneCell' = true)
    (ht : P.underlying t = some (.slice e)) (hi : P.info? e = some i) (hz : i.zero = some z)
    (hsize : i.size = size) (hby : i.bytes = bytes) (hzs : z.cells.size = size) (hsz : 0 < size)
    (v : Value) (n : Nat) (xs : List Value) (hs : a.eval s = v) (hown : w.ownsRow base e size v n xs) (B : Nat) (sv : Value) (ys : List α) (hx : a.eval x = sv) (hr : RdS w B size enc sv ys)
    (h63 : n + ys.length ≤ maxLen) (hbytes : (n + ys.length) * bytes ≤ 140737488355328) (hbase : base ≤ w.heap.size)
    (h : ∀ v' w', w'.ownsRow base e size v' (n + ys.length) (xs ++ ys.flatMap enc) → w.grownBy w' v.ownBlock → (v'.ownBlock = v.ownBlock ∨ v'.ownBlock = some w.heap.size) → K (a.put o.dst v') w') : o.wp P a w K Q := by
  obtain ⟨v', w', hrun, h2, h3, h4⟩ := run_append_rd (P := P) w base t o.type e i z size bytes hu h1 ht hi hz hsize hby hzs hsz v n xs hown B sv ys hr h63 hbytes hbase
  unfold Oper.wp execOp
  simp only [ho, resolve, invoke, builtin, Sem.run_bind, Sem.run_pure, Result.andThen_ok, List.map_toArray, List.map_cons, List.map_nil, hs, hx, hrun]
  exact h v' w' h2 h3 h4

theorem below_own_grown {B : Nat} {a w' : World} {base : Nat} {e : TypeId} {size n : Nat} {v : Value} {xs : List Value} (hb : Below B a w) (hg : w.grownBy w' v.ownBlock) (h : w.ownsRow base e size v n xs) (hB : B ≤ base) (hB' : B ≤ w.heap.size) : Below B a w' :=
  hb.grown hg hB' fun k hk => Nat.le_trans hB (h.lt k hk).1
end

theorem len_int (e : Int) : (encInt e).length = 1 := rfl
theorem one_int (e : Int) : ∀ u ∈ encInt e, u.oneCell' = true := by intro u hu; simp [encInt] at hu; subst hu; rfl




theorem info_int : (Try.prog.info? 3).map (fun i => (i.zero, i.size, i.bytes)) = some (some (.int .i64 0), 1, 8) := by kernel_rfl
end Go.Proofs.Ytenmkbpdkfhbjaa
