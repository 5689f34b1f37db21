/- A range over an iterator that itself ranges over iterators: what the iterator and the rounds promise each other, and the law of the statement.; groups.kids: the iterator over the kids of a node, or over the groups of a text. -/
import Derived.RangeFuncNested
import Derived.RangeFuncBound
import Derived.RangeFuncCalls
import Derived.RangeFuncLeaves
import Derived.WalkKit
import Derived.OwnWalkIn
import Derived.TacticsInMore
import Derived.LoopNIn
import Derived.LoopIn
import Derived.Test.YtenmkbpdkfhbjaaGreatRcR3Rdr
import Derived.Test.YtenmkbpdkfhbjaaGreatRcFmtPlain
import Derived.Deep.CutBlock
namespace Go.Proofs.YtenmkbpdkfhbjaaGreat
open Go Go.RowKit

structure Stays (X : Nat → Prop) (w w' : World) : Prop where
 os : w'.os = w.os
 tape : w'.tape = w.tape
 output : w'.output = w.output
 size : w.heap.size ≤ w'.heap.size
 block : ∀ b, b < w.heap.size → X b → w'.heap[b]? = w.heap[b]?
theorem Stays.refl (X : Nat → Prop) (w : World) : Stays X w w := ⟨rfl, rfl, rfl, Nat.le_refl _, fun _ _ _ => rfl⟩
theorem Stays.mono {X Y : Nat → Prop} {w w' : World} (h : Stays X w w') (hx : ∀ b, b < w.heap.size → Y b → X b) : Stays Y w w' := ⟨h.os, h.tape, h.output, h.size, fun b hb hy => h.block b hb (hx b hb hy)⟩
theorem Stays.trans {X : Nat → Prop} {a b c : World} (h : Stays X a b) (k : Stays X b c) : Stays X a c :=
 ⟨k.os.trans h.os, k.tape.trans h.tape, k.output.trans h.output, Nat.le_trans h.size k.size, fun i hi hx => (k.block i (Nat.lt_of_lt_of_le hi h.size) hx).trans (h.block i hi hx)⟩
theorem Stays.of_below {X : Nat → Prop} {B : Nat} {w w' : World} (h : Below B w w') (hx : ∀ b, b < w.heap.size → X b → b < B) : Stays X w w' := ⟨h.os, h.tape, h.output, h.size, fun b hb hX => h.block b (hx b hb hX)⟩
theorem Stays.all {X : Nat → Prop} {w w' : World} (h : Below w.heap.size w w') : Stays X w w' := .of_below h fun _ hb _ => hb
theorem Stays.below {X : Nat → Prop} {B : Nat} {w w' : World} (h : Stays X w w') (hB : B ≤ w.heap.size) (hx : ∀ b, b < B → X b) : Below B w w' := ⟨h.os, h.tape, h.output, h.size, fun b hb => h.block b (Nat.lt_of_lt_of_le hb hB) (hx b hb)⟩
theorem Stays.putObj (w : World) (l : Nat) (o : Obj) : Stays (fun b => b ≠ l) w (w.putObj l o) := ⟨rfl, rfl, rfl, by simp, fun _ _ h => World.putObj_heap_other h⟩
theorem Stays.setCell (w : World) (p : Addr) (v : Value) : Stays (fun b => b ≠ p.block) w (w.setCell p v) := ⟨rfl, rfl, rfl, by simp [World.setCell], fun b _ h => Below.heap_setCell w p v b h⟩
theorem Stays.grown {w w' : World} {row : Option Nat} (h : w.grownBy w' row) : Stays (fun b => row ≠ some b) w w' := ⟨h.os, h.tape, h.output, h.size, fun b hb hx => h.block b hb (fun e => hx e.symm)⟩
theorem Stays.cell {X : Nat → Prop} {w w' : World} (h : Stays X w w') {p : Addr} {v : Value} (hc : w.cell? p = some v) (hx : X p.block) : w'.cell? p = some v := by
 have hb : p.block < w.heap.size := by
  obtain ⟨o, ho, _⟩ := cells_of_cell hc
  exact (Array.getElem?_eq_some_iff.1 ho).1
 exact (World.cell?_of_block (h.block _ hb hx)).trans hc

structure Turns (T S : Nat → Prop) (w : World) (S' : Nat → Prop) (w' : World) : Prop where
 st : Stays (fun b => ¬ T b ∧ ¬ S b) w w'
 sub : ∀ b, S' b → S b ∨ (w.heap.size ≤ b ∧ b < w'.heap.size)
def Minds {α : Type} (B : Nat) (J : List α → (Nat → Prop) → World → Prop) : Prop := ∀ pre S w w', J pre S w → Stays (fun b => b < B ∨ S b) w w' → J pre S w'
def Firm {α : Type} (E : α → World → Array Value → Prop) : Prop := ∀ x w w' args, E x w args → Stays (fun b => ∀ r, w.heap[b]? ≠ some (.loop r)) w w' → E x w' args

def Gives {α : Type} (P : Program) (g : Nat) (lb : Array Value) (E : α → World → Array Value → Prop) (ok : Nat → Prop) (xs : List α) (w : World) : Prop :=
 ∀ (n l : Nat) (T : Nat → Prop) (J Jx : List α → (Nat → Prop) → World → Prop) (W : World), w.heap.size ≤ W.heap.size → (∀ b, ok b → b < w.heap.size ∧ W.heap[b]? = w.heap[b]?) →
  (∀ b, T b → ¬ ok b ∧ b < W.heap.size) → Minds W.heap.size J → Minds W.heap.size Jx →
  (∀ (m : Nat) (pre : List α) (S : Nat → Prop) (x : α) (args : Array Value) (W1 : World), J pre S W1 → (∀ b, S b → W.heap.size ≤ b ∧ b < W1.heap.size) → W.heap.size ≤ W1.heap.size → (pre ++ [x]) <+: xs → E x W1 args →
   YieldAt Fence.wide m P l args W1 fun e W' => ∃ S', Turns T S W1 S' W' ∧ ((e = .returned (.bool true) ∧ J (pre ++ [x]) S' W') ∨ (e = .returned (.bool false) ∧ Jx (pre ++ [x]) S' W'))) →
  J [] (fun _ => False) W →
  CallsIn Fence.wide n P g (#[.func (.yield l) #[] #[]] ++ lb) W fun e W' => (∃ v, e = .returned v) ∧ ∃ S, (∀ b, S b → W.heap.size ≤ b ∧ b < W'.heap.size) ∧ (J xs S W' ∨ ∃ pre, pre <+: xs ∧ Jx pre S W')

def roundEnd {α : Type} (T S : Nat → Prop) (I : List α → (Nat → Prop) → World → Prop) (Ix : Code → List α → (Nat → Prop) → World → Prop) (xs : List α) (w : World) : Exit → Act → World → Prop
 | .normal, _, w' => ∃ S', Turns T S w S' w' ∧ I xs S' w'
 | .ret, _, w' => ∃ S', Turns T S w S' w' ∧ Ix .ret xs S' w'
 | .exit id, _, w' => ∃ S', Turns T S w S' w' ∧ Ix (.exit id) xs S' w'
 | .goto t, _, w' => ∃ S', Turns T S w S' w' ∧ Ix (.goto t) xs S' w'
 | .panic _, _, _ => False
 | .outgrown, _, _ => False

theorem wp_iter {α : Type} {P : Program} {n : Nat} {g : Operand} {ps : Array Tmp} {assign body : Code} {Q : Exit → Act → World → Prop} {a : Act} {w : World}
  {gf : Nat} {lb : Array Value} (hg : a.eval g = .func (.func gf) #[] lb) (eg : ∀ args w, (callFunc gf args).run P w = .ok (.enter gf args) w)
  {E : α → World → Array Value → Prop} {ok : Nat → Prop} {xs : List α} (hseq : Gives P gf lb E ok xs w) (hE : ∀ x w args, E x w args → args.size = ps.size) (hEf : Firm E) (hok : ∀ b, ok b → b < w.heap.size)
  (T : Nat → Prop) (hT : ∀ b, T b → ¬ ok b ∧ b < w.heap.size)
  (I : List α → (Nat → Prop) → World → Prop) (Ix : Code → List α → (Nat → Prop) → World → Prop) (hI : Minds w.heap.size I) (hIx : ∀ c, Minds w.heap.size (Ix c)) (h0 : I [] (fun _ => False) w)
  (hround : ∀ (m l : Nat) (pre : List α) (S : Nat → Prop) (x : α) (args : Array Value) (W : World), l = w.heap.size + 1 → Stays (fun b => ¬ T b) w W → (∀ b, S b → w.heap.size + 2 ≤ b ∧ b < W.heap.size) → w.heap.size + 2 ≤ W.heap.size →
   I pre S W → (pre ++ [x]) <+: xs → E x W args →
   assign.wpIn (Fence.wide.inRound l) m P (Exit.then (fun a₁ W₁ => Stays (fun _ => True) W W₁ ∧ ∃ S₂ : Nat → Prop, (∀ b, S₂ b → S b ∨ (W.heap.size ≤ b ∧ b < W₁.heap.size)) ∧ ∀ W₂, Stays (fun b => b ≠ l) W₁ W₂ → Stays (fun b => b ≠ l) W W₂ → I pre S W₂ → E x W₂ args → Stays (fun b => ¬ T b) w W₂ →
    body.wpIn (Fence.wide.inRound l) m P (roundEnd T S₂ I Ix (pre ++ [x]) W₂) a₁ W₂) (fun _ _ _ => False))
    { tmps := (ps.zip args).foldl (fun t (p, v) => t.setIfInBounds p v) a.tmps, defers := [] } W)
  (hdone : ∀ (S : Nat → Prop) (W : World), Stays (fun b => ¬ T b) w W → (∀ b, S b → w.heap.size + 2 ≤ b ∧ b < W.heap.size) → w.heap.size + 2 ≤ W.heap.size → I xs S W → W.heap[w.heap.size]? = some (.deferred (some [])) → Q .normal { a with defers := { target := .collected w.heap.size, args := #[] } :: a.defers } W)
  (hstop : ∀ (c : Code) (pre : List α) (S : Nat → Prop) (W : World), Stays (fun b => ¬ T b) w W → (∀ b, S b → w.heap.size + 2 ≤ b ∧ b < W.heap.size) → w.heap.size + 2 ≤ W.heap.size → pre <+: xs → Ix c pre S W → W.heap[w.heap.size]? = some (.deferred (some [])) → c.wpIn Fence.wide n P Q { a with defers := { target := .collected w.heap.size, args := #[] } :: a.defers } W) :
  (Code.rangeFunc g ps assign body).wpIn Fence.wide n P Q a w := by
 refine wpIn_rangeFunc ?_
 intro fn hfn
 have hro : Fence.wide.round = none := rfl
 rw [hro]
 obtain ⟨rec, hrec⟩ : ∃ rec : LoopState → Option Code → Loop, rec = fun st pe => { state := st, pending := pe, fn, tmps := a.tmps, params := ps, assign, body, defers := w.heap.size } := ⟨_, rfl⟩
 obtain ⟨W1, hW1⟩ : ∃ W1, (w.alloc (.deferred (some []))).alloc (.loop (rec .ready none)) = W1 := ⟨_, rfl⟩
 have hsz : W1.heap.size = w.heap.size + 2 := by rw [← hW1]; simp
 have hL1 : W1.heap[w.heap.size + 1]? = some (.loop (rec .ready none)) := by
  rw [← hW1]
  have := World.alloc_heap_new (w.alloc (.deferred (some []))) (.loop (rec .ready none))
  rwa [World.size_alloc] at this
 have hK1 : W1.heap[w.heap.size]? = some (.deferred (some [])) := by
  rw [← hW1]; exact (Below.heap_alloc _ _ _ (by simp)).trans (World.alloc_heap_new w _)
 have hB1 : Below w.heap.size w W1 := by rw [← hW1]; exact ((Below.refl _ w).alloc (Nat.le_refl _) _).alloc (by simp) _
 refine ⟨w.heap.size + 1, [{ target := .collected w.heap.size, args := #[] }], W1, { target := .fn (.func gf) lb, args := #[.func (.yield (w.heap.size + 1)) #[] #[]] }, W1, gf,
  #[.func (.yield (w.heap.size + 1)) #[] #[]] ++ lb, W1, ?_, ?_, ?_, ?_, fun h => by simp [Fence.wide] at h, ?_⟩
 ·rw [← hW1, hrec]; exact run_enterLoop_outer _ _ _ _ _
 ·simp only [resolve, hg]
  simp [go_sem]
 ·intro f' hf'; exact trivial
 ·simp [invoke, go_sem, eg]
 ·refine (hseq (n - 1) (w.heap.size + 1) (fun b => T b ∨ b = w.heap.size + 1)
   (fun pre S W => I pre S W ∧ Stays (fun b => ¬ T b) w W ∧ W.heap[w.heap.size + 1]? = some (.loop (rec .ready none)) ∧ W.heap[w.heap.size]? = some (.deferred (some [])))
   (fun pre S W => ∃ c, Ix c pre S W ∧ Stays (fun b => ¬ T b) w W ∧ W.heap[w.heap.size + 1]? = some (.loop (rec .done (some c))) ∧ W.heap[w.heap.size]? = some (.deferred (some [])))
   W1 (by omega) (fun b hb => ⟨hok b hb, hB1.block b (hok b hb)⟩) (fun b hb => ?_) ?_ ?_ ?_ ⟨?_, .all hB1, hL1, hK1⟩).mono ?_
  ·rcases hb with h | rfl
   ·exact ⟨(hT b h).1, by have := (hT b h).2; omega⟩
   ·exact ⟨fun h => by have := hok _ h; omega, by omega⟩
  ·rintro pre S W W' ⟨h1, h2, h3, h4⟩ hs
   have hle := h2.size
   have e1 := (Array.getElem?_eq_some_iff.1 h3).1
   refine ⟨hI pre S W W' h1 (hs.mono fun b _ hx => hx.elim (fun q => .inl (by omega)) .inr), ⟨hs.os.trans h2.os, hs.tape.trans h2.tape, hs.output.trans h2.output, Nat.le_trans hle hs.size, fun b hb hx => (hs.block b (by omega) (.inl (by omega))).trans (h2.block b hb hx)⟩,
    (hs.block _ (by omega) (.inl (by omega))).trans h3, (hs.block _ (by omega) (.inl (by omega))).trans h4⟩
  ·rintro pre S W W' ⟨c, h1, h2, h3, h4⟩ hs
   have hle := h2.size
   have e1 := (Array.getElem?_eq_some_iff.1 h3).1
   refine ⟨c, hIx c pre S W W' h1 (hs.mono fun b _ hx => hx.elim (fun q => .inl (by omega)) .inr), ⟨hs.os.trans h2.os, hs.tape.trans h2.tape, hs.output.trans h2.output, Nat.le_trans hle hs.size, fun b hb hx => (hs.block b (by omega) (.inl (by omega))).trans (h2.block b hb hx)⟩,
    (hs.block _ (by omega) (.inl (by omega))).trans h3, (hs.block _ (by omega) (.inl (by omega))).trans h4⟩
  ·-- one round
   rintro m pre S x args W ⟨hi, hold, hl, hk⟩ hS hWs hpre he
   rw [hsz] at hS hWs
   have hy := run_yield (P := P) (args := args) hl (by rw [hrec]; exact hE x W args he)
   rw [hrec] at hy
   refine ⟨fn, _, assign, body, hy, roundIn_of_wpIn hfn ?_⟩
   clear hy
   have hr := hround m (w.heap.size + 1) pre S x args W rfl hold hS hWs hi hpre he
   refine wpIn_mono hr ?_
   intro e a₁ Wa hp
   cases e with
   | normal =>
    obtain ⟨hsa, S₂, hS₂, hbody⟩ := hp
    have hla : Wa.heap[w.heap.size + 1]? = some (.loop (rec .ready none)) := (hsa.block _ (by omega) trivial).trans hl
    have hka : Wa.heap[w.heap.size]? = some (.deferred (some [])) := (hsa.block _ (by omega) trivial).trans hk
    have hlta : w.heap.size + 1 < Wa.heap.size := by have := hsa.size; omega
    refine ⟨_, run_beginRound hla (by rw [hrec]), ?_⟩
    obtain ⟨W2, hW2⟩ : ∃ W2, W2 = Wa.putObj (w.heap.size + 1) (.loop { rec .ready none with state := .busy }) := ⟨_, rfl⟩
    have hs2 : Stays (fun b => b ≠ w.heap.size + 1) Wa W2 := by rw [hW2]; exact Stays.putObj _ _ _
    have hs02 : Stays (fun b => b ≠ w.heap.size + 1) W W2 := (hsa.mono fun _ _ _ => trivial).trans hs2
    have hl2 : W2.heap[w.heap.size + 1]? = some (.loop { rec .ready none with state := .busy }) := by rw [hW2]; exact World.putObj_heap_same hlta
    have hk2 : W2.heap[w.heap.size]? = some (.deferred (some [])) := (hs2.block _ (by omega) (by omega)).trans hka
    have hz2 : W2.heap.size = Wa.heap.size := by rw [hW2]; simp
    rw [← hW2]
    have hold2 : Stays (fun b => ¬ T b) w W2 := ⟨hs02.os.trans hold.os, hs02.tape.trans hold.tape, hs02.output.trans hold.output, Nat.le_trans hold.size hs02.size, fun b hb hx => (hs02.block b (by omega) (by omega)).trans (hold.block b hb hx)⟩
    have hi2 : I pre S W2 := hI pre S W W2 hi (hs02.mono fun b _ hx => by
     rcases hx with h | h
     ·show b ≠ _; omega
     ·have := hS b h; show b ≠ _; omega)
    have he2 : E x W2 args := hEf x W W2 args he (hs02.mono fun b _ hx => by
     show b ≠ _
     rintro rfl
     exact hx _ hl)
    refine wpIn_mono (hbody W2 hs2 hs02 hi2 he2 hold2) ?_
    have fin : ∀ (jump : Option Code) (S' : Nat → Prop) (W3 : World), Turns T S₂ W2 S' W3 →
      (Instr.endRound (w.heap.size + 1) jump).run P W3 = .ok (.bool jump.isNone) (W3.putObj (w.heap.size + 1) (.loop (rec (if jump.isNone then .ready else .done) jump))) ∧
      (W3.putObj (w.heap.size + 1) (.loop (rec (if jump.isNone then .ready else .done) jump))).heap[w.heap.size + 1]? = some (.loop (rec (if jump.isNone then .ready else .done) jump)) ∧
      (W3.putObj (w.heap.size + 1) (.loop (rec (if jump.isNone then .ready else .done) jump))).heap[w.heap.size]? = some (.deferred (some [])) ∧
      Stays (fun b => ¬ T b) w (W3.putObj (w.heap.size + 1) (.loop (rec (if jump.isNone then .ready else .done) jump))) ∧
      Turns (fun b => T b ∨ b = w.heap.size + 1) S W S' (W3.putObj (w.heap.size + 1) (.loop (rec (if jump.isNone then .ready else .done) jump))) ∧
      (∀ (J : List α → (Nat → Prop) → World → Prop) (ys : List α), Minds w.heap.size J → J ys S' W3 → J ys S' (W3.putObj (w.heap.size + 1) (.loop (rec (if jump.isNone then .ready else .done) jump)))) := fun jump S' W3 ht => by
     have nT : ∀ b, w.heap.size ≤ b → ¬ T b := fun b hb h => by have := (hT b h).2; omega
     have nS : ∀ b, b < w.heap.size + 2 → ¬ S₂ b := fun b hb h => by
      rcases hS₂ b h with q | q
      ·have := (hS b q).1; omega
      ·omega
     have hl3 := (ht.st.block (w.heap.size + 1) (by omega) ⟨nT _ (by omega), nS _ (by omega)⟩).trans hl2
     have hk3 := (ht.st.block w.heap.size (by omega) ⟨nT _ (by omega), nS _ (by omega)⟩).trans hk2
     have h3 : W2.heap.size ≤ W3.heap.size := ht.st.size
     have hr3 := run_endRound (P := P) jump hl3
     obtain ⟨o4, ho4⟩ : ∃ o4, o4 = Obj.loop (rec (if jump.isNone then .ready else .done) jump) := ⟨_, rfl⟩
     have hp4 := Stays.putObj W3 (w.heap.size + 1) o4
     have hz4 : (W3.putObj (w.heap.size + 1) o4).heap.size = W3.heap.size := by simp
     have hnS' : ¬ S' (w.heap.size + 1) := fun h => by
      rcases ht.sub _ h with q | q
      ·exact nS _ (by omega) q
      ·omega
     have hrr : (Instr.endRound (w.heap.size + 1) jump).run P W3 = .ok (.bool jump.isNone) (W3.putObj (w.heap.size + 1) (.loop (rec (if jump.isNone then .ready else .done) jump))) := by rw [hrec] at hr3 ⊢; exact hr3
     rw [← ho4] at hrr ⊢
     refine ⟨hrr, World.putObj_heap_same (by omega), (World.putObj_heap_other (by omega)).trans hk3, ?_, ⟨?_, ?_⟩, ?_⟩
     ·exact ⟨hp4.os.trans (ht.st.os.trans hold2.os), hp4.tape.trans (ht.st.tape.trans hold2.tape), hp4.output.trans (ht.st.output.trans hold2.output), Nat.le_trans hold2.size (Nat.le_trans h3 (by omega)),
       fun b hb hx => (hp4.block b (by have := hold2.size; omega) (by show b ≠ _; omega)).trans ((ht.st.block b (by have := hold2.size; omega) ⟨hx, nS b (by omega)⟩).trans (hold2.block b hb hx))⟩
     ·exact ⟨hp4.os.trans (ht.st.os.trans hs02.os), hp4.tape.trans (ht.st.tape.trans hs02.tape), hp4.output.trans (ht.st.output.trans hs02.output), Nat.le_trans hs02.size (Nat.le_trans h3 (by omega)),
       fun b hb hx => by
        have n1 : ¬ T b := fun q => hx.1 (.inl q)
        have n2 : b ≠ w.heap.size + 1 := fun q => hx.1 (.inr q)
        exact (hp4.block b (by have := hs02.size; omega) n2).trans ((ht.st.block b (by have := hs02.size; omega) ⟨n1, fun q => (hS₂ b q).elim hx.2 fun r => by omega⟩).trans (hs02.block b hb n2))⟩
     ·intro b hb
      rcases ht.sub b hb with q | q
      ·rcases hS₂ b q with r | r
       ·exact .inl r
       ·exact .inr ⟨r.1, by have := hsa.size; omega⟩
      ·exact .inr ⟨by have := hs02.size; omega, by omega⟩
     ·intro J ys hJ hj
      refine hJ ys S' W3 _ hj (hp4.mono fun b _ hx => ?_)
      show b ≠ _
      rcases hx with q | q
      ·omega
      ·rintro rfl; exact hnS' q
    intro e a3 W3 hp3
    cases e with
    | normal =>
     obtain ⟨S', ht, hi3⟩ := hp3
     obtain ⟨q1, q2, q3, q4, q5, q6⟩ := fin none S' W3 ht
     exact ⟨_, _, q1, S', q5, .inl ⟨rfl, q6 I _ hI hi3, q4, q2, q3⟩⟩
    | ret =>
     obtain ⟨S', ht, hi3⟩ := hp3
     obtain ⟨q1, q2, q3, q4, q5, q6⟩ := fin (some .ret) S' W3 ht
     exact ⟨_, _, q1, S', q5, .inr ⟨rfl, .ret, q6 (Ix .ret) _ (hIx _) hi3, q4, q2, q3⟩⟩
    | exit id =>
     obtain ⟨S', ht, hi3⟩ := hp3
     obtain ⟨q1, q2, q3, q4, q5, q6⟩ := fin (some (.exit id)) S' W3 ht
     exact ⟨_, _, q1, S', q5, .inr ⟨rfl, .exit id, q6 (Ix (.exit id)) _ (hIx _) hi3, q4, q2, q3⟩⟩
    | goto t =>
     obtain ⟨S', ht, hi3⟩ := hp3
     obtain ⟨q1, q2, q3, q4, q5, q6⟩ := fin (some (.goto t)) S' W3 ht
     exact ⟨_, _, q1, S', q5, .inr ⟨rfl, .goto t, q6 (Ix (.goto t)) _ (hIx _) hi3, q4, q2, q3⟩⟩
    | panic ch => exact hp3.elim
    | outgrown => exact hp3.elim
   | ret => exact hp.elim
   | exit id => exact hp.elim
   | goto t => exact hp.elim
   | panic ch => exact hp.elim
   | outgrown => exact hp.elim
  ·exact hI [] _ w W1 h0 (.all hB1)
  ·-- behind the iterator
   have back : ∀ (J : List α → (Nat → Prop) → World → Prop) (ys : List α) (S : Nat → Prop) (W : World) (r : Loop), Minds w.heap.size J → J ys S W → Stays (fun b => ¬ T b) w W → W.heap[w.heap.size + 1]? = some (.loop r) → W.heap[w.heap.size]? = some (.deferred (some [])) → ¬ S (w.heap.size + 1) → ∀ o,
     J ys S (W.putObj (w.heap.size + 1) o) ∧ Stays (fun b => ¬ T b) w (W.putObj (w.heap.size + 1) o) ∧ w.heap.size + 2 ≤ (W.putObj (w.heap.size + 1) o).heap.size ∧ (W.putObj (w.heap.size + 1) o).heap[w.heap.size]? = some (.deferred (some [])) := fun J ys S W r hJ hj ho hl hk hn o => by
    have hp := Stays.putObj W (w.heap.size + 1) o
    have hlt := (Array.getElem?_eq_some_iff.1 hl).1
    refine ⟨hJ ys S W _ hj (hp.mono fun b _ hx => ?_), ⟨hp.os.trans ho.os, hp.tape.trans ho.tape, hp.output.trans ho.output, Nat.le_trans ho.size hp.size, fun b hb hx => (hp.block b (by omega) (by show b ≠ _; omega)).trans (ho.block b hb hx)⟩, by simp; omega, (World.putObj_heap_other (by omega)).trans hk⟩
    show b ≠ _
    rcases hx with q | q
    ·omega
    ·rintro rfl; exact hn q
   rintro e W2 ⟨⟨v, rfl⟩, S, hS, (⟨hi, ho, hl, hk⟩ | ⟨pre, hpre, c, hi, ho, hl, hk⟩)⟩
   ·have hend := run_endLoop (P := P) hl (by rw [hrec]; simp)
    have hp : (rec .ready none).pending = none := by rw [hrec]
    rw [hp] at hend
    obtain ⟨b1, b2, b3, b4⟩ := back I xs S W2 _ hI hi ho hl hk (fun h => by have := (hS _ h).1; omega) _
    exact ⟨none, _, hend, hdone S _ b2 (fun b hb => by have := hS b hb; rw [World.putObj_size]; omega) b3 b1 b4⟩
   ·have hend := run_endLoop (P := P) hl (by rw [hrec]; simp)
    have hp : (rec .done (some c)).pending = some c := by rw [hrec]
    rw [hp] at hend
    obtain ⟨b1, b2, b3, b4⟩ := back (Ix c) pre S W2 _ (hIx c) hi ho hl hk (fun h => by have := (hS _ h).1; omega) _
    exact ⟨some c, _, hend, hstop c pre S _ b2 (fun b hb => by have := hS b hb; rw [World.putObj_size]; omega) b3 hpre b1 b4⟩
theorem leaves_marks {P : Program} {F : Fence} {n : Nat} {fn : Func} {tmps : Array Value} {R : Ending → World → Prop} : ∀ (Ds : List Nat) (W : World), Ds.Nodup → (∀ D ∈ Ds, W.heap[D]? = some (.deferred (some []))) →
  (∀ W', Stays (fun b => b ∉ Ds) W W' → LeavesIn F n P fn tmps R [] .returning W') → LeavesInM F n P fn tmps R (Ds.map fun D => { target := .collected D, args := #[] }) .returning W
 | [], W, _, _, h => h W (Stays.refl _ _)
 | D :: Ds, W, hn, hd, h => by
  rw [List.nodup_cons] at hn
  refine ⟨by simp, .inl ⟨D, _, rfl, run_takeDeferred (hd D (by simp)), ?_⟩⟩
  refine leaves_marks Ds _ hn.2 (fun D' hD' => (World.putObj_heap_other (fun e => hn.1 (by rw [← e]; exact hD'))).trans (hd D' (by simp [hD']))) fun W' hs => h W' ?_
  exact ((Stays.putObj W D (.deferred none)).mono fun b _ hx => by simp at hx; exact hx.1).trans (hs.mono fun b _ hx => by simp at hx; exact hx.2)
end Go.Proofs.YtenmkbpdkfhbjaaGreat
namespace Tx
def fromV (node : Int) : Nat := if 0 ≤ node then node.toNat + 1 else 0
def toV (ns : List Node) (node : Int) : Nat := if 0 ≤ node then endV ns node.toNat else ns.length
def kidsJ (ns : List Node) (node : Int) : List Nat := jump ns (ns.length + 1) (fromV node) (toV ns node)
theorem jump_fuel {ns : List Node} {e : Nat} : ∀ (f g k : Nat), e - k ≤ f → e - k ≤ g → jump ns f k e = jump ns g k e
 | 0, g, k, h1, h2 => by
  have hk : ¬ k < e := by omega
  cases g with
  | zero => rfl
  | succ g => rw [jump, jump, if_neg hk]
 | f + 1, 0, k, h1, h2 => by
  have hk : ¬ k < e := by omega
  rw [jump, jump, if_neg hk]
 | f + 1, g + 1, k, h1, h2 => by
  rw [jump, jump]
  split
  ·rename_i hk
   have := end_gt ns k
   rw [jump_fuel f g (endV ns k) (by omega) (by omega)]
  ·rfl
theorem jump_step {ns : List Node} {f k e : Nat} (h : k < e) (hf : e - k ≤ f) : jump ns f k e = k :: jump ns f (endV ns k) e := by
 cases f with
 | zero => omega
 | succ f =>
  conv => lhs; rw [jump, if_pos h]
  have := end_gt ns k
  rw [jump_fuel f (f + 1) (endV ns k) (by omega) (by omega)]
theorem jump_done {ns : List Node} {f k e : Nat} (h : ¬ k < e) : jump ns f k e = [] := by
 cases f with
 | zero => rfl
 | succ f => rw [jump, if_neg h]
theorem kidsJ_eq {ns : List Node} {i : Nat} (hd : Deep ns) (hi : i < ns.length) : kidsJ ns (i : Int) = kidsV ns i := by
 unfold kidsJ fromV toV
 rw [if_pos (by omega), if_pos (by omega), Int.toNat_natCast]
 exact jump_eq hd hi (by omega)
end Tx
namespace Go.Proofs.YtenmkbpdkfhbjaaGreat
open Go Go.RowKit
attribute [local go_sem] Oper.semAt_some

def EKid (k : Nat) (_ : World) (args : Array Value) : Prop := args = #[.int .i64 (k : Int)]
theorem firm_kid : Firm EKid := fun _ _ _ _ h _ => h
theorem kids_any (A : Option Addr) (n c : Nat) (node : Int) (w : World) : Calls Tryz.prog 81 #[.slice A n c, .int .i64 node] w (fun e w' => e = .returned (.func (.func 103) #[] #[.pointer (some ⟨w.heap.size, 0, none⟩), .pointer (some ⟨w.heap.size + 1, 0, none⟩)]) ∧ w' = (w.alloc (.cells #[.slice A n c] 25)).alloc (.cells #[.int .i64 node] 3)) := by
 go_enter Tryz.func81, Tryz.ntmps81
 go_wp2
 go_ret
 exact ⟨rfl, rfl⟩
structure KidsAt (w : World) (bl bn : Nat) (A : Option Addr) (c : Nat) (ns : List Tx.Node) (node : Int) (ok : Nat → Prop) : Prop where
 hl : w.heap[bl]? = some (.cells #[.slice A ns.length c] 25 (0, 0))
 hn : w.heap[bn]? = some (.cells #[.int .i64 node] 3 (0, 0))
 ol : ok bl
 on : ok bn
 rd : RdX w ok 8 encN (.slice A ns.length c) ns
 lt : ∀ b, ok b → b < w.heap.size
set_option maxRecDepth 100000 in
set_option maxHeartbeats 8000000 in
theorem kids_gives (ns : List Tx.Node) (node : Int) (hnode : -1 ≤ node ∧ node < ns.length) (hns : ns.length ≤ 1000000) (w : World) (bl bn : Nat) (A : Option Addr) (c : Nat) (ok : Nat → Prop) (hat : KidsAt w bl bn A c ns node ok) :
  Gives Tryz.prog 103 #[.pointer (some ⟨bl, 0, none⟩), .pointer (some ⟨bn, 0, none⟩)] EKid ok (Tx.kidsJ ns node) w := by
 intro m l T J Jx W hWs hokW hT hJ hJx hY h0
 have hWl := (hokW bl hat.ol).2.trans hat.hl
 have hWn := (hokW bn hat.on).2.trans hat.hn
 have hltl : bl < W.heap.size := by have := (hokW bl hat.ol).1; omega
 have hltn : bn < W.heap.size := by have := (hokW bn hat.on).1; omega
 have HT := Lib.hid hT
 have HJ := Lib.hid hJ
 have HJX := Lib.hid hJx
 have HY := Lib.hid hY
 have H0 := Lib.hid h0
 have HAT := Lib.hid hat
 have HOKW := Lib.hid hokW
 have HNS := Lib.hid hns
 have HND := Lib.hid hnode
 have OWN : Hid (∀ W' : World, (∀ b, b < W.heap.size → ok b → W'.heap[b]? = W.heap[b]?) → W.heap.size ≤ W'.heap.size →
   W'.cell? ⟨bl, 0, none⟩ = some (.slice A ns.length c) ∧ W'.cell? ⟨bn, 0, none⟩ = some (.int .i64 node) ∧ RdN W' W'.heap.size (.slice A ns.length c) ns) := Lib.hid fun W' hk hz => by
  have q1 := (hk bl hltl HAT.out.ol).trans hWl
  have q2 := (hk bn hltn HAT.out.on).trans hWn
  refine ⟨by simp [World.cell?, q1], by simp [World.cell?, q2], ?_⟩
  refine (HAT.out.rd.keep (w' := W') (ok' := fun b => b < W'.heap.size) fun b hb => ?_).to fun b hb => hb
  have h1 := HOKW.out b hb
  exact ⟨by have := h1.1; omega, (hk b (by have := h1.1; omega) hb).trans h1.2⟩
 clear hT hJ hJx hY h0 hat hokW hWl hWn hltl hltn
 refine callsIn_of_wp_marks Tryz.func103 rfl trivial ?_
 simp only [Tryz.ntmps103, List.size_toArray, List.length_cons, List.length_nil, Nat.reduceAdd, Nat.reduceSub, Array.replicate_succ, Array.replicate_zero, List.push_toArray, List.append_toArray, List.nil_append, List.cons_append]
 refine wpIn_wide.2 ?_
 obtain ⟨q0, q1, q2⟩ := OWN.out W (fun _ _ _ => rfl) (Nat.le_refl _)
 have HQ2 := Lib.hid q2
 clear q2 hnode hns
 go_upto_region 0 with fail
 go_quiet (fail)
 rename_i nq _
 obtain ⟨V, hV⟩ : ∃ V, V = W.drewN nq := ⟨_, rfl⟩
 have p0 : V.cell? ⟨bl, 0, none⟩ = some (.slice A ns.length c) := by rw [hV]; exact q0
 have p1 : V.cell? ⟨bn, 0, none⟩ = some (.int .i64 node) := by rw [hV]; exact q1
 rw [← hV]
 have HV := Lib.hid hV
 have HEND : Hid (∀ n i : Nat, i < ns.length → Calls Tryz.prog 104 #[.slice A ns.length c, .int .i64 i] (V.drewN n) (fun e w' => e = .returned (.int .i64 (Tx.endV ns i : Int)) ∧ ∃ m, w' = (V.drewN n).drewN m)) := Lib.hid (fun n i hil => by
  rw [hV]
  exact end_any ((W.drewN nq).drewN n) W.heap.size A c ns i HQ2.out hil HNS.out)
 clear hV
 go_upto_if 10 with fail
 go_cut [4, 5] from 10 to 16 (fun a b wc => a = .int .i64 (Tx.fromV node : Int) ∧ b = .int .i64 (Tx.toV ns node : Int) ∧ ∃ n, wc = V.drewN n)
 case first =>
  by_cases h0 : 0 ≤ node
  ·have hg : decide ((0 : Int) ≤ node) = true := by simpa using h0
   have hid := HND.out
   have hil : node.toNat < ns.length := by omega
   have HF : Hid (Tx.fromV node = node.toNat + 1 ∧ Tx.toV ns node = Tx.endV ns node.toNat) := Lib.hid ⟨by unfold Tx.fromV; rw [if_pos h0], by unfold Tx.toV; rw [if_pos h0]⟩
   have hiI : node < 9223372036854775807 := by have := HNS.out; omega
   have HEN2 : Hid (∀ n : Nat, Calls Tryz.prog 104 #[.slice A ns.length c, .int .i64 node] (V.drewN n) (fun e w' => e = .returned (.int .i64 (Tx.endV ns node.toNat : Int)) ∧ ∃ m, w' = (V.drewN n).drewN m)) := Lib.hid (fun n => by
    have := HEND.out n node.toNat hil
    rw [Int.toNat_of_nonneg h0] at this
    exact this)
   clear hid hil
   go_upto_region 2 with fail
   go_quiet ((go_at_call 104; exact Calls.quiet_of (HEN2.out _)))
   go_wp2_with fail
   go_meet
   case rel =>
    rw [HF.out.1, HF.out.2]
    exact ⟨by congr 1; omega, rfl, _, rfl⟩
  ·have hg : decide ((0 : Int) ≤ node) = false := by simpa using h0
   have HF : Hid (Tx.fromV node = 0 ∧ Tx.toV ns node = ns.length) := Lib.hid ⟨by unfold Tx.fromV; rw [if_neg h0], by unfold Tx.toV; rw [if_neg h0]⟩
   go_wp2_with fail
   go_meet
   go_light
   rw [HF.out.1, HF.out.2]
   exact ⟨rfl, rfl, 0, rfl⟩
 case rest =>
  obtain ⟨rfl, rfl, n2, hn2⟩ := hcut
  obtain ⟨fr, hfr⟩ : ∃ fr, fr = Tx.fromV node := ⟨_, rfl⟩
  obtain ⟨te, hto⟩ : ∃ te, te = Tx.toV ns node := ⟨_, rfl⟩
  rw [← hfr, ← hto]
  have hfl : te ≤ ns.length := by
   rw [hto]
   unfold Tx.toV
   split
   ·exact Tx.end_le (by have := HND.out; omega)
   ·exact Nat.le_refl _
  have hB : Below W.heap.size W wc := by rw [hn2, HV.out]; exact below_drewN (below_drewN (Below.refl _ _) _) _
  have HB := Lib.hid hB
  have HJ1 : Hid (J [] (fun _ => False) wc) := Lib.hid (HJ.out _ _ _ _ H0.out (.all hB))
  have HXS : Hid (Tx.kidsJ ns node = Tx.jump ns (ns.length + 1) fr te) := Lib.hid (by rw [hfr, hto]; rfl)
  have hsz : W.heap.size = wc.heap.size := by rw [hn2, HV.out]; rfl
  have HSZ := Lib.hid hsz
  clear hn2 hfr hto hB p0 p1 hsz q0 q1
  go_wp2_with fail
  go_loopg [6] (te - fr) (fun g v wr => ∃ (k : Nat) (pre : List Nat) (S : Nat → Prop), g = te - k ∧ v = .int .i64 (k : Int) ∧ pre ++ Tx.jump ns (ns.length + 1) k te = Tx.kidsJ ns node ∧ J pre S wr ∧ (∀ b, S b → W.heap.size ≤ b ∧ b < wr.heap.size) ∧ (∀ b, b < W.heap.size → ok b → wr.heap[b]? = W.heap[b]?) ∧ W.heap.size ≤ wr.heap.size)
  case atStart => exact ⟨fr, [], fun _ => False, rfl, rfl, HXS.out.symm, HJ1.out, fun b h => h.elim, fun b hb _ => HB.out.block b hb, HB.out.size⟩
  case round =>
   obtain ⟨k, pre, S, rfl, rfl, hpre, hj, hsb, hok, hz⟩ := hrel
   obtain ⟨p0, p1, hrd⟩ := OWN.out wr hok hz
   have HPRE := Lib.hid hpre
   have HJR := Lib.hid hj
   have HSB := Lib.hid hsb
   have HOK := Lib.hid hok
   have HRD := Lib.hid hrd
   clear hpre hj hsb hok hrd
   by_cases hlt : k < te
   ·have hltI : (k : Int) < (te : Int) := by omega
    have hkl : k < ns.length := by omega
    have hgt := Tx.end_gt ns k
    have hstep : (pre ++ [k]) ++ Tx.jump ns (ns.length + 1) (Tx.endV ns k) te = Tx.kidsJ ns node := by
     rw [← HPRE.out, Tx.jump_step hlt (by omega), List.append_assoc]
     rfl
    have HST := Lib.hid hstep
    have hpf : (pre ++ [k]) <+: Tx.kidsJ ns node := ⟨_, hstep⟩
    have HPF := Lib.hid hpf
    obtain ⟨fn, tmps, assign, body, hy, hR⟩ := HY.out 8 pre S k #[.int .i64 (k : Int)] wr HJR.out HSB.out hz hpf rfl
    clear hstep hpf p0 p1
    go_upto_region 6 with fail
    refine (wpIn_wide (n := 9)).1 ?_
    gi_wp2
    refine hR.mono ?_
    clear hR hy
    rintro e W2 ⟨S2, ht2, hres⟩
    have hk2 : ∀ b, b < W.heap.size → ok b → W2.heap[b]? = W.heap[b]? := fun b hb hx => (ht2.st.block b (by omega) ⟨fun h => (HT.out b h).1 hx, fun h => by have := (HSB.out b h).1; omega⟩).trans (HOK.out b hb hx)
    have hz2 := ht2.st.size
    have hS2 : ∀ b, S2 b → W.heap.size ≤ b ∧ b < W2.heap.size := fun b hb => by
     rcases ht2.sub b hb with q | q
     ·have := HSB.out b q; omega
     ·omega
    obtain ⟨p0, p1, hrd⟩ := OWN.out W2 hk2 (by omega)
    have HK2 := Lib.hid hk2
    have HS2 := Lib.hid hS2
    have HRD2 := Lib.hid hrd
    clear ht2 hk2 hS2 hrd
    rcases hres with ⟨rfl, hJ2⟩ | ⟨rfl, hJx2⟩
    ·have HJ2 := Lib.hid hJ2
     clear hJ2
     gi_wp2
     go_wp2_with fail
     refine (end_any W2 W2.heap.size A c ns k HRD2.out hkl HNS.out).mono ?_
     rintro e w3 ⟨rfl, n3, hn3⟩
     have hb3 : Below W2.heap.size W2 w3 := by rw [hn3]; exact below_drewN (Below.refl _ _) _
     have hs3 : w3.heap.size = W2.heap.size := by rw [hn3]; rfl
     have HB3 := Lib.hid hb3
     clear hn3 hb3
     go_wp2_with fail
     go_roundg (te - Tx.endV ns k)
     case measure => omega
     case rel => exact ⟨Tx.endV ns k, pre ++ [k], S2, rfl, rfl, HST.out, HJ.out _ _ _ _ HJ2.out (.all HB3.out), fun b hb => by have := HS2.out b hb; omega, fun b hb hx => (HB3.out.block b (by omega)).trans (HK2.out b hb hx), by omega⟩
    ·have HJ2 := Lib.hid hJx2
     clear hJx2
     gi_wp2
     go_wp2_with fail
     exact ⟨_, results_none rfl _ _ _, ⟨_, rfl⟩, S2, HS2.out, .inr ⟨_, HPF.out, HJ2.out⟩⟩
   ·have hltI : ¬ (k : Int) < (te : Int) := by omega
    have hfin : pre = Tx.kidsJ ns node := by
     have := HPRE.out
     rw [Tx.jump_done hlt, List.append_nil] at this
     exact this
    have HJF : Hid (J (Tx.kidsJ ns node) S wr) := Lib.hid (hfin ▸ HJR.out)
    clear hfin
    go_wp2_with fail
    exact ⟨_, results_none rfl _ _ _, ⟨_, rfl⟩, S, HSB.out, .inl HJF.out⟩
end Go.Proofs.YtenmkbpdkfhbjaaGreat
