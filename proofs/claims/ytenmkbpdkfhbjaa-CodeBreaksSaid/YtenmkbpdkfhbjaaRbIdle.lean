/- Glosses can be read back: plain law.; What the program's ParseGloss builds out of the words of a gloss: plain law.; The weight of a form: plain notions.; lexicon.weight: the weight of a valid form.; The reference's Check.; The reference's CheckForm.; Stem, Sounds, Weight of the program and of the reference. Made by gen_sounds.py.; As XRegion, where some edges bind in some modes alone.; As .. -/
import Derived.Test.YtenmkbpdkfhbjaaRbGlossPlain
import Derived.Lib.Split
import Derived.Test.YtenmkbpdkfhbjaaRbMatches
import Derived.Test.YtenmkbpdkfhbjaaRbMem
import Derived.Deep.DeepCutAuto
import Derived.Deep.LoopGhost
import Derived.Deep.Light
import Derived.Deep.QuietTactic
import Derived.BigQuiet
namespace Lx
open Go



/-- one more clitic -/
def more (f : Form) (c : Nat) : Form := ⟨f.entry, f.ending, f.clitics ++ [(c : Int)]⟩
/-- f is what g is up to clitic c -/
structure OnWay (g f : Form) (c : Nat) : Prop where
  ent : f.entry = g.entry
  fin : f.ending = g.ending
  ex : ∃ m, m ≤ g.clitics.length ∧ f.clitics = g.clitics.take m ∧ ∀ j a, m ≤ j → g.clitics[j]? = some a → (c : Int) ≤ a
/-- what is read from a gloss -/
def ReadG (x : Lexicon) (s : ByteArray) (f : Form) (n : Int) : Prop :=
  (checkV x ≠ 0 ∧ n = checkV x ∧ f = ⟨0, 0, []⟩) ∨
  (checkV x = 0 ∧ ((n = 0 ∧ formV x f = 0 ∧ glossV x f = s) ∨ (n = 4 ∧ f = ⟨0, 0, []⟩ ∧ ∀ g, formV x g = 0 → glossV x g ≠ s)))
end Lx
namespace Go.Proofs.Ytenmkbpdkfhbjaa
open Go.RowKit

theorem Lx.bytes_eq {a b : ByteArray} (h : a.data.toList = b.data.toList) : a = b := by
  have e : a.data = b.data := Array.toList_inj.1 h
  cases a; cases b; simp only at e; rw [e]
theorem Lx.toList_data (b : ByteArray) : b.toList = b.data.toList := by
  have h : ∀ (k i : Nat) (acc : List UInt8), b.size - i ≤ k → i ≤ b.size → ByteArray.toList.loop b i acc = acc.reverse ++ b.data.toList.drop i := by
    intro k
    induction k with
    | zero =>
      intro i acc hk hi
      rw [ByteArray.toList.loop, if_neg (by omega), List.drop_eq_nil_of_le (by show b.size ≤ i; omega), List.append_nil]
    | succ k ih =>
      intro i acc hk hi
      rw [ByteArray.toList.loop]
      by_cases hlt : i < b.size
      · have hb : i < b.data.toList.length := hlt
        have e : b.get! i = b.data.toList[i]'hb := by
          have hb' : i < b.data.size := hlt
          show b.data[i]! = _
          rw [getElem!_pos b.data i hb', Array.getElem_toList]
        rw [if_pos hlt, ih (i + 1) _ (by omega) (by omega), List.reverse_cons, List.append_assoc, List.drop_eq_getElem_cons hb, e]
        rfl
      · rw [if_neg hlt, List.drop_eq_nil_of_le (by show b.size ≤ i; omega), List.append_nil]
  have := h b.size 0 [] (by omega) (Nat.zero_le _)
  simpa [ByteArray.toList] using this
theorem Lx.toList_ne {a b : ByteArray} (h : a ≠ b) : (a.toList == b.toList) = false := by
  rw [beq_eq_false_iff_ne]
  intro e
  rw [Lx.toList_data, Lx.toList_data] at e
  exact h (Lx.bytes_eq e)
end Go.Proofs.Ytenmkbpdkfhbjaa
namespace Lx
end Lx
namespace Go.Proofs.Ytenmkbpdkfhbjaa
open Go.RowKit


end Go.Proofs.Ytenmkbpdkfhbjaa
namespace Go.Proofs.Ytenmkbpdkfhbjaa
open Go.RowKit

theorem below_drewN {B : Nat} {a w : World} (h : Below B a w) (n : Nat) : Below B a (w.drewN n) := ⟨h.os, h.tape, h.output, h.size, h.block⟩


end Go.Proofs.Ytenmkbpdkfhbjaa
namespace Go.Proofs.Ytenmkbpdkfhbjaa
open Go.RowKit


end Go.Proofs.Ytenmkbpdkfhbjaa
namespace Go.Proofs.Ytenmkbpdkfhbjaa
open Go.RowKit

theorem start_res' (w : World) (A B : Obj) : ((w.alloc A).alloc B).heap[w.heap.size + 1]? = some B := by
  have q := heap_alloc_new (w.alloc A) B
  have hs : (w.alloc A).heap.size = w.heap.size + 1 := by simp
  rw [hs] at q
  exact q









end Go.Proofs.Ytenmkbpdkfhbjaa
namespace Go.Proofs.Ytenmkbpdkfhbjaa
open Go Go.RowKit

section
variable {P : Program} {ops : Array Oper} {Q : Exit → Act → World → Prop} {md : Region.Mode}
/-- every edge that binds goes to an operation that stands before -/
def tidyOps2 (md : Region.Mode) (ops : Array Oper) : Bool := (List.range ops.size).all fun i => ((ops[i]?).map fun o => o.after.all fun e => decide (e.on < i) || !Region.binds md e).getD true

theorem all_of_ready2 {l : Array Bool} (ht : tidyOps2 md ops = true) (hs : l.size = ops.size) (h : Region.ready md ops l = []) : ∀ i, i < ops.size → l.getD i true = true := by
  intro i
  induction i using Nat.strongRecOn with
  | _ i ih =>
    intro hi
    by_cases hd : l.getD i true = true
    · exact hd
    · exfalso
      have hm : i ∈ Region.ready md ops l := by
        unfold Region.ready
        rw [List.mem_filter, List.mem_range]
        refine ⟨hi, ?_⟩
        have ho : ops[i]? = some ops[i] := Array.getElem?_eq_getElem hi
        have hd' : l.getD i true = false := by simpa using hd
        rw [hd', ho]
        show (true && _) = true
        rw [Bool.true_and, Option.map_some, Option.getD_some, Array.all_eq_true']
        intro e he
        have h3 : e.on < i ∨ Region.binds md e = false := by
          have h1 := List.all_eq_true.1 ht i (List.mem_range.2 hi)
          rw [ho] at h1
          simp only [Option.map_some, Option.getD_some] at h1
          simpa using Array.all_eq_true'.1 h1 e he
        rcases h3 with hlt | hnb
        · have := ih e.on hlt (by omega)
          have h2 : l.getD e.on false = true := by
            simp [Array.getD, hs, (by omega : e.on < ops.size)] at this ⊢
            exact this
          simp [h2]
        · simp [hnb]
      rw [h] at hm
      cases hm

theorem wpAny_inv2 (I : Array Bool → Act → World → Prop) (ht : tidyOps2 md ops = true)
    (hstep : ∀ l a w i, l.size = ops.size → I l a w → i ∈ Region.ready md ops l → wpOp P ops Q i (I (l.setIfInBounds i true)) a w)
    (hend : ∀ l a w, l.size = ops.size → I l a w → (∀ i, i < ops.size → l.getD i true = true) → Q .normal a w) :
    ∀ (fuel : Nat) (l : Array Bool) (a : Act) (w : World), l.size = ops.size → l.toList.count false ≤ fuel → I l a w → wpAny P md ops Q fuel l a w := by
  intro fuel
  induction fuel with
  | zero =>
    intro l a w hs hc hI
    have hr : Region.ready md ops l = [] := by
      rw [List.eq_nil_iff_forall_not_mem]
      intro i hi
      have := count_set (mem_ready hi).2.1
      omega
    exact ⟨hr, hend l a w hs hI (all_of_ready2 ht hs hr)⟩
  | succ fuel ih =>
    intro l a w hs hc hI
    refine ⟨fun hr => hend l a w hs hI (all_of_ready2 ht hs hr), fun i hi => ?_⟩
    have hcs := count_set (mem_ready hi).2.1
    exact wpOp_mono (fun a' w' h' => ih _ a' w' (by simpa using hs) (by omega) h') (hstep l a w i hs hI hi)

theorem wp_region_inv2 {id : Nat} {l : List Oper} {a : Act} {w : World} {Q : Exit → Act → World → Prop} (I : Array Bool → Act → World → Prop) (hm : P.follows .mixedOrders = true) (ht : tidyOps2 .any l.toArray = true)
    (h0 : I (Array.replicate l.length false) a w.drew)
    (hstep : ∀ d a w i, d.size = l.length → I d a w → i ∈ Region.ready .any l.toArray d → wpOp P l.toArray Q i (I (d.setIfInBounds i true)) a w)
    (hend : ∀ d a w, d.size = l.length → I d a w → (∀ i, i < l.length → d.getD i true = true) → Q .normal a w) :
    (Code.region id l.toArray true).wp P Q a w := by
  refine wp_region_any hm ?_
  refine wpAny_inv2 I ht (fun d a w i hs => hstep d a w i (by simpa using hs)) (fun d a w hs hI hh => hend d a w (by simpa using hs) hI (by simpa using hh)) _ _ _ _ (by simp) ?_ ?_
  · simp
  · simpa using h0

end
end Go.Proofs.Ytenmkbpdkfhbjaa
namespace Go.Proofs.Ytenmkbpdkfhbjaa
open Go Go.RowKit
theorem wp_region_inv2T {P : Program} {id : Nat} {l : List Oper} {t : Array Value} {df : List Deferred} {w : World} {Q : Exit → Act → World → Prop} (I : Array Value → Array Bool → Act → World → Prop) (hm : P.follows .mixedOrders = true) (ht : tidyOps2 .any l.toArray = true)
    (h0 : I t (Array.replicate l.length false) ⟨t, df⟩ w.drew)
    (hstep : ∀ t0 d a w i, d.size = l.length → I t0 d a w → i ∈ Region.ready .any l.toArray d → wpOp P l.toArray Q i (I t0 (d.setIfInBounds i true)) a w)
    (hend : ∀ d a w, d.size = l.length → I t d a w → (∀ i, i < l.length → d.getD i true = true) → Q .normal a w) :
    (Code.region id l.toArray true).wp P Q ⟨t, df⟩ w := wp_region_inv2 (I t) hm ht h0 (hstep t) hend
end Go.Proofs.Ytenmkbpdkfhbjaa
namespace Go.Proofs.Ytenmkbpdkfhbjaa
open Go Go.RowKit
theorem rs {t : Array Value} {k m : Nat} {u v : Value} (h : t[k]? = some v) (f : k ≠ m := by decide) : (t.setIfInBounds m u)[k]? = some v := (set_other f).trans h
theorem rp {d : Array Bool} {i j : Nat} {t : Array Value} {k m : Nat} {u v : Value} (hi : i < d.size) (h : dn d j → t[k]? = some v) (e : j ≠ i := by decide) (f : k ≠ m := by decide) : dn (d.setIfInBounds i true) j → (t.setIfInBounds m u)[k]? = some v :=
  fun hj => (set_other f).trans (h (dn_of hi hj e))
theorem rk {t T0 : Array Value} {l : List Nat} {m : Nat} {u : Value} (h : ∀ i, i ∉ l → t[i]? = T0[i]?) (hm : m ∈ l := by decide) : ∀ i, i ∉ l → (t.setIfInBounds m u)[i]? = T0[i]? :=
  fun i hi => (set_other (fun e => hi (by rw [e]; exact hm))).trans (h i hi)
/-- these slots hold these values -/
def Held (t : Array Value) : List (Nat × Value) → Prop
  | [] => True
  | p :: r => t[p.1]? = some p.2 ∧ Held t r
theorem held_set : ∀ (l : List (Nat × Value)) (t A : Array Value), A.size = t.size → (∀ i, i ∉ l.map (·.1) → A[i]? = t[i]?) → Held t l → l.foldl (fun a p => a.setIfInBounds p.1 p.2) A = t
  | [], t, A, _, hk, _ => by
    refine Array.ext_getElem? fun i => ?_
    exact hk i (by simp)
  | p :: r, t, A, hs, hk, hw => by
    rw [List.foldl_cons]
    refine held_set r t _ (by simpa using hs) (fun i hi => ?_) hw.2
    by_cases e : i = p.1
    · subst e
      have hlt := (Array.getElem?_eq_some_iff.1 hw.1).1
      rw [set_same (by omega), hw.1]
    · rw [set_other e]
      exact hk i (by simp only [List.map_cons, List.mem_cons, not_or]; exact ⟨e, hi⟩)
/-- the frame behind a region -/
theorem frame_eq {t T0 : Array Value} {wl : List Nat} (l : List (Nat × Value)) (hs : t.size = T0.size) (hk : ∀ i, i ∉ wl → t[i]? = T0[i]?) (hm : wl.all (fun i => l.any fun p => p.1 == i) = true) (hw : Held t l) : t = l.foldl (fun a p => a.setIfInBounds p.1 p.2) T0 := by
  refine (held_set l t T0 hs.symm (fun i hi => (hk i (fun h => hi ?_)).symm) hw).symm
  have := List.all_eq_true.1 hm i h
  rw [List.any_eq_true] at this
  obtain ⟨p, hp, e⟩ := this
  have e' : p.1 = i := by simpa using e
  rw [← e']
  exact List.mem_map_of_mem hp
end Go.Proofs.Ytenmkbpdkfhbjaa
namespace Go.Proofs.Ytenmkbpdkfhbjaa
open Go Go.RowKit

theorem wpOp_idle {P : Program} {ops : Array Oper} {Q : Exit → Act → World → Prop} {i : Nat} {o : Oper} {K : Act → World → Prop} {a : Act} {w : World} (ho : ops[i]? = some o) (hg : Region.wanted o (yielded ops a.tmps) = false) (h : K (a.put o.dst undef) w) : wpOp P ops Q i K a w := by
  unfold wpOp
  rw [ho]
  simp only [hg]
  exact h
theorem unwanted_of {ops : Array Oper} {t : Array Value} {o : Oper} {g d : Nat} {b c : Bool} (hg : o.guard = some (g, b)) (hx : (ops[g]?).bind (·.dst) = some d) (h : t[d]? = some (.bool c)) (hb : c ≠ b) : Region.wanted o (yielded ops t) = false := by
  simp [Region.wanted, hg, yielded, hx, h, hb]
end Go.Proofs.Ytenmkbpdkfhbjaa
