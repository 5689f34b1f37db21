/- As XRegion, where some edges bind in some modes alone. As XRegion2, the frame handed to the relation. Short words for the steps of a region. Operations of a region that nobody wants (as in XApart; never import both).; ostraconref05.begins and tails. Made by gen_rtails.py.; ostraconref01: Split, Lines, Number; ostraconref05.full.; ostraconref01.Number. The value of a row of digits: as the kit's .. -/
import Derived.Test.YtkmimjngmfdpmaaGreatDoorMpRegion
import Derived.Test.YtkmimjngmfdpmaaGreatDoorMpTextPlain
import Derived.Test.YtkmimjngmfdpmaaGreatDoorMpBegin
import Derived.Test.YtkmimjngmfdpmaaGreatDoorMpSgRead
import Derived.Test.YtkmimjngmfdpmaaGreatDoorMpLeaf
import Derived.Lib.Atoi
import Derived.Lib.SlTrimSet
namespace Go.Proofs.YtkmimjngmfdpmaaGreatDoor
open Go Go.RowKit

section
variable {P : Program} {ops : Array Oper} {Q : Exit → Act → World → Prop} {md : Region.Mode}
/-- every edge that binds goes to an operation that stands before -/
def tidyOps2 (md : Region.Mode) (ops : Array Oper) : Bool := (List.range ops.size).all fun i => ((ops[i]?).map fun o => o.after.all fun e => decide (e.on < i) || !Region.binds md e).getD true

theorem all_of_ready2 {l : Array Bool} (ht : tidyOps2 md ops = true) (hs : l.size = ops.size) (h : Region.ready md ops l = []) : ∀ i, i < ops.size → l.getD i true = true := by
  intro i
  induction i using Nat.strongRecOn with
  | _ i ih =>
    intro hi
    by_cases hd : l.getD i true = true
    · exact hd
    · exfalso
      have hm : i ∈ Region.ready md ops l := by
        unfold Region.ready
        rw [List.mem_filter, List.mem_range]
        refine ⟨hi, ?_⟩
        have ho : ops[i]? = some ops[i] := Array.getElem?_eq_getElem hi
        have hd' : l.getD i true = false := by simpa using hd
        rw [hd', ho]
        show (true && _) = true
        rw [Bool.true_and, Option.map_some, Option.getD_some, Array.all_eq_true']
        intro e he
        have h3 : e.on < i ∨ Region.binds md e = false := by
          have h1 := List.all_eq_true.1 ht i (List.mem_range.2 hi)
          rw [ho] at h1
          simp only [Option.map_some, Option.getD_some] at h1
          simpa using Array.all_eq_true'.1 h1 e he
        rcases h3 with hlt | hnb
        · have := ih e.on hlt (by omega)
          have h2 : l.getD e.on false = true := by
            simp [Array.getD, hs, (by omega : e.on < ops.size)] at this ⊢
            exact this
          simp [h2]
        · simp [hnb]
      rw [h] at hm
      cases hm

theorem wpAny_inv2 (I : Array Bool → Act → World → Prop) (ht : tidyOps2 md ops = true)
    (hstep : ∀ l a w i, l.size = ops.size → I l a w → i ∈ Region.ready md ops l → wpOp P ops Q i (I (l.setIfInBounds i true)) a w)
    (hend : ∀ l a w, l.size = ops.size → I l a w → (∀ i, i < ops.size → l.getD i true = true) → Q .normal a w) :
    ∀ (fuel : Nat) (l : Array Bool) (a : Act) (w : World), l.size = ops.size → l.toList.count false ≤ fuel → I l a w → wpAny P md ops Q fuel l a w := by
  intro fuel
  induction fuel with
  | zero =>
    intro l a w hs hc hI
    have hr : Region.ready md ops l = [] := by
      rw [List.eq_nil_iff_forall_not_mem]
      intro i hi
      have := count_set (mem_ready hi).2.1
      omega
    exact ⟨hr, hend l a w hs hI (all_of_ready2 ht hs hr)⟩
  | succ fuel ih =>
    intro l a w hs hc hI
    refine ⟨fun hr => hend l a w hs hI (all_of_ready2 ht hs hr), fun i hi => ?_⟩
    have hcs := count_set (mem_ready hi).2.1
    exact wpOp_mono (fun a' w' h' => ih _ a' w' (by simpa using hs) (by omega) h') (hstep l a w i hs hI hi)

theorem wp_region_inv2 {id : Nat} {l : List Oper} {a : Act} {w : World} {Q : Exit → Act → World → Prop} (I : Array Bool → Act → World → Prop) (hm : P.follows .mixedOrders = true) (ht : tidyOps2 .any l.toArray = true)
    (h0 : I (Array.replicate l.length false) a w.drew)
    (hstep : ∀ d a w i, d.size = l.length → I d a w → i ∈ Region.ready .any l.toArray d → wpOp P l.toArray Q i (I (d.setIfInBounds i true)) a w)
    (hend : ∀ d a w, d.size = l.length → I d a w → (∀ i, i < l.length → d.getD i true = true) → Q .normal a w) :
    (Code.region id l.toArray true).wp P Q a w := by
  refine wp_region_any hm ?_
  refine wpAny_inv2 I ht (fun d a w i hs => hstep d a w i (by simpa using hs)) (fun d a w hs hI hh => hend d a w (by simpa using hs) hI (by simpa using hh)) _ _ _ _ (by simp) ?_ ?_
  · simp
  · simpa using h0

end
end Go.Proofs.YtkmimjngmfdpmaaGreatDoor
namespace Go.Proofs.YtkmimjngmfdpmaaGreatDoor
open Go Go.RowKit
theorem wp_region_inv2T {P : Program} {id : Nat} {l : List Oper} {t : Array Value} {df : List Deferred} {w : World} {Q : Exit → Act → World → Prop} (I : Array Value → Array Bool → Act → World → Prop) (hm : P.follows .mixedOrders = true) (ht : tidyOps2 .any l.toArray = true)
    (h0 : I t (Array.replicate l.length false) ⟨t, df⟩ w.drew)
    (hstep : ∀ t0 d a w i, d.size = l.length → I t0 d a w → i ∈ Region.ready .any l.toArray d → wpOp P l.toArray Q i (I t0 (d.setIfInBounds i true)) a w)
    (hend : ∀ d a w, d.size = l.length → I t d a w → (∀ i, i < l.length → d.getD i true = true) → Q .normal a w) :
    (Code.region id l.toArray true).wp P Q ⟨t, df⟩ w := wp_region_inv2 (I t) hm ht h0 (hstep t) hend
end Go.Proofs.YtkmimjngmfdpmaaGreatDoor
namespace Go.Proofs.YtkmimjngmfdpmaaGreatDoor
open Go Go.RowKit
theorem rs {t : Array Value} {k m : Nat} {u v : Value} (h : t[k]? = some v) (f : k ≠ m := by decide) : (t.setIfInBounds m u)[k]? = some v := (set_other f).trans h
theorem rp {d : Array Bool} {i j : Nat} {t : Array Value} {k m : Nat} {u v : Value} (hi : i < d.size) (h : dn d j → t[k]? = some v) (e : j ≠ i := by decide) (f : k ≠ m := by decide) : dn (d.setIfInBounds i true) j → (t.setIfInBounds m u)[k]? = some v :=
  fun hj => (set_other f).trans (h (dn_of hi hj e))
theorem rn {d : Array Bool} {i j : Nat} {P : Prop} (hi : i < d.size) (h : dn d j → P) (e : j ≠ i := by decide) : dn (d.setIfInBounds i true) j → P := fun hj => h (dn_of hi hj e)
theorem rc {d : Array Bool} {i j : Nat} {t : Array Value} {k m : Nat} {u : Value} {R R' : Value → Prop} (hi : i < d.size) (h : dn d j → ∃ v, t[k]? = some v ∧ R v) (g : ∀ v, R v → R' v) (e : j ≠ i := by decide) (f : k ≠ m := by decide) :
    dn (d.setIfInBounds i true) j → ∃ v, (t.setIfInBounds m u)[k]? = some v ∧ R' v := fun hj => by
  obtain ⟨v, h1, h2⟩ := h (dn_of hi hj e)
  exact ⟨v, (set_other f).trans h1, g v h2⟩
theorem rcn {d : Array Bool} {i j : Nat} {t : Array Value} {k : Nat} {R R' : Value → Prop} (hi : i < d.size) (h : dn d j → ∃ v, t[k]? = some v ∧ R v) (g : ∀ v, R v → R' v) (e : j ≠ i := by decide) :
    dn (d.setIfInBounds i true) j → ∃ v, t[k]? = some v ∧ R' v := fun hj => by
  obtain ⟨v, h1, h2⟩ := h (dn_of hi hj e)
  exact ⟨v, h1, g v h2⟩
theorem rk {t T0 : Array Value} {l : List Nat} {m : Nat} {u : Value} (h : ∀ i, i ∉ l → t[i]? = T0[i]?) (hm : m ∈ l := by decide) : ∀ i, i ∉ l → (t.setIfInBounds m u)[i]? = T0[i]? :=
  fun i hi => (set_other (fun e => hi (by rw [e]; exact hm))).trans (h i hi)
/-- these slots hold these values -/
def Held (t : Array Value) : List (Nat × Value) → Prop
  | [] => True
  | p :: r => t[p.1]? = some p.2 ∧ Held t r
theorem held_set : ∀ (l : List (Nat × Value)) (t A : Array Value), A.size = t.size → (∀ i, i ∉ l.map (·.1) → A[i]? = t[i]?) → Held t l → l.foldl (fun a p => a.setIfInBounds p.1 p.2) A = t
  | [], t, A, _, hk, _ => by
    refine Array.ext_getElem? fun i => ?_
    exact hk i (by simp)
  | p :: r, t, A, hs, hk, hw => by
    rw [List.foldl_cons]
    refine held_set r t _ (by simpa using hs) (fun i hi => ?_) hw.2
    by_cases e : i = p.1
    · subst e
      have hlt := (Array.getElem?_eq_some_iff.1 hw.1).1
      rw [set_same (by omega), hw.1]
    · rw [set_other e]
      exact hk i (by simp only [List.map_cons, List.mem_cons, not_or]; exact ⟨e, hi⟩)
/-- the frame behind a region -/
theorem frame_eq {t T0 : Array Value} {wl : List Nat} (l : List (Nat × Value)) (hs : t.size = T0.size) (hk : ∀ i, i ∉ wl → t[i]? = T0[i]?) (hm : wl.all (fun i => l.any fun p => p.1 == i) = true) (hw : Held t l) : t = l.foldl (fun a p => a.setIfInBounds p.1 p.2) T0 := by
  refine (held_set l t T0 hs.symm (fun i hi => (hk i (fun h => hi ?_)).symm) hw).symm
  have := List.all_eq_true.1 hm i h
  rw [List.any_eq_true] at this
  obtain ⟨p, hp, e⟩ := this
  have e' : p.1 = i := by simpa using e
  rw [← e']
  exact List.mem_map_of_mem hp
end Go.Proofs.YtkmimjngmfdpmaaGreatDoor
namespace Go.Proofs.YtkmimjngmfdpmaaGreatDoor
open Go Go.RowKit

theorem wpOp_idle {P : Program} {ops : Array Oper} {Q : Exit → Act → World → Prop} {i : Nat} {o : Oper} {K : Act → World → Prop} {a : Act} {w : World} (ho : ops[i]? = some o) (hg : Region.wanted o (yielded ops a.tmps) = false) (h : K (a.put o.dst undef) w) : wpOp P ops Q i K a w := by
  unfold wpOp
  rw [ho]
  simp only [hg]
  exact h
theorem unwanted_of {ops : Array Oper} {t : Array Value} {o : Oper} {g d : Nat} {b c : Bool} (hg : o.guard = some (g, b)) (hx : (ops[g]?).bind (·.dst) = some d) (h : t[d]? = some (.bool c)) (hb : c ≠ b) : Region.wanted o (yielded ops t) = false := by
  simp [Region.wanted, hg, yielded, hx, h, hb]
end Go.Proofs.YtkmimjngmfdpmaaGreatDoor
namespace Go.Proofs.YtkmimjngmfdpmaaGreatDoor
open Go.RowKit

theorem keep_own {w w' : World} {base : Nat} {e : TypeId} {size n : Nat} {v : Value} {xs : List Value} (h : w.ownsRow base e size v n xs) (hb : Below w.heap.size w w') : w'.ownsRow base e size v n xs := h.kept (grown_of_below (row := none) hb) (by
  rcases h.2 with ⟨e, _⟩ | ⟨g, cap, cur, e, _⟩
  · rw [e]; exact .inl rfl
  · rw [e]; exact .inr (by simp [Value.ownBlock]))
/-- appended: more than one -/
theorem grows.append {α : Type} {K : RowK α} {w : World} {ok : Nat → Prop} {cs cs' : List Value} {xs ys : List α} (h : grows K w ok cs xs) (h' : grows K w ok cs' ys) : grows K w ok (cs ++ cs') (xs ++ ys) := by
  induction h with
  | nil => exact h'
  | cons h _ ih => rw [List.append_assoc]; exact .cons h ih
theorem OwnG.more {α : Type} {K : RowK α} {e : TypeId} {w w' : World} {base : Nat} {v v' : Value} {xs ys : List α} {cells cs : List Value} (h2 : grows K w (fun b => b < w.heap.size ∧ v.ownBlock ≠ some b ∧ base ≤ b) cells xs)
    (hm : grows K w (fun b => b < w.heap.size ∧ v.ownBlock ≠ some b ∧ base ≤ b) cs ys) (hown : w'.ownsRow base e K.size v' (xs.length + ys.length) (cells ++ cs)) (hg : w.grownBy w' v.ownBlock)
    (hat : v'.ownBlock = v.ownBlock ∨ ∃ g, v'.ownBlock = some g ∧ w.heap.size ≤ g) : OwnG K e w' base v' (xs ++ ys) := by
  have hk : ∀ b, (b < w.heap.size ∧ v.ownBlock ≠ some b ∧ base ≤ b) → (b < w'.heap.size ∧ v'.ownBlock ≠ some b ∧ base ≤ b) ∧ w'.heap[b]? = w.heap[b]? := by
    intro b ⟨hb, hne, hbs⟩
    refine ⟨⟨Nat.lt_of_lt_of_le hb hg.size, ?_, hbs⟩, hg.block b hb (fun e => hne e.symm)⟩
    rcases hat with e | ⟨g, e, hge⟩
    · rw [e]; exact hne
    · rw [e]; intro q; cases q; omega
  exact ⟨_, by rw [List.length_append]; exact hown, (h2.append hm).keep hk⟩






end Go.Proofs.YtkmimjngmfdpmaaGreatDoor
namespace Go.Proofs.YtkmimjngmfdpmaaGreatDoor
open Go Go.RowKit

def encStr (b : ByteArray) : List Value := [.string b]
theorem len_str (b : ByteArray) : (encStr b).length = 1 := rfl

end Go.Proofs.YtkmimjngmfdpmaaGreatDoor
namespace Go.Proofs.YtkmimjngmfdpmaaGreatDoor
open Go Go.RowKit

theorem ret_nb {a b : Int} {c d : Bool} (h : a = b) (h' : c = d) : Ending.returned (.tuple #[.int .i64 a, .bool c]) = .returned (.tuple #[.int .i64 b, .bool d]) := by rw [h, h']

end Go.Proofs.YtkmimjngmfdpmaaGreatDoor
namespace Go.Proofs.YtkmimjngmfdpmaaGreatDoor
open Go

theorem Lx.digVal {b : UInt8} (h : Lx.digB b = true) : Lib.digitVal b = some (b.toNat - 48) := by
  unfold Lib.digitVal
  rw [if_pos]
  simpa [Lx.digB] using h
theorem Lx.dec_from : ∀ (l : List UInt8) (acc : Nat), l.all Lx.digB = true → ∃ n : Nat, Lib.decFrom acc l = some n ∧ (n : Int) = l.foldl (fun n b => 10 * n + ((b.toNat : Int) - 48)) (acc : Int)
  | [], acc, _ => ⟨acc, rfl, rfl⟩
  | b :: r, acc, h => by
    rw [List.all_cons, Bool.and_eq_true] at h
    obtain ⟨n, h1, h2⟩ := Lx.dec_from r (acc * 10 + (b.toNat - 48)) h.2
    refine ⟨n, ?_, ?_⟩
    · unfold Lib.decFrom
      rw [Lx.digVal h.1]
      exact h1
    · rw [h2, List.foldl_cons]
      have hb : 48 ≤ b.toNat := by
        have := h.1
        simp [Lx.digB] at this
        omega
      congr 1
      omega
theorem Lx.atoi_dig {l : List UInt8} (h0 : l ≠ []) (h : l.all Lx.digB = true) : Lib.atoi l = some (Lx.digV l) := by
  cases l with
  | nil => exact absurd rfl h0
  | cons b r =>
    have hb : Lx.digB b = true := by rw [List.all_cons, Bool.and_eq_true] at h; exact h.1
    have hb2 : 48 ≤ b.toNat ∧ b.toNat ≤ 57 := by simpa [Lx.digB] using hb
    obtain ⟨n, h1, h2⟩ := Lx.dec_from (b :: r) 0 h
    have e1 : (b == 45) = false := by rw [beq_eq_false_iff_ne]; rintro rfl; exact absurd hb2.1 (by decide)
    have e2 : (b == 43) = false := by rw [beq_eq_false_iff_ne]; rintro rfl; exact absurd hb2.1 (by decide)
    show (if (b == 45) = true then (Lib.decNat r).map fun (m : Nat) => -(m : Int) else if (b == 43) = true then (Lib.decNat r).map fun (m : Nat) => (m : Int) else (Lib.decNat (b :: r)).map fun (m : Nat) => (m : Int)) = _
    rw [e1, e2]
    have e3 : Lib.decNat (b :: r) = some n := by unfold Lib.decNat; exact h1
    simp only [Bool.false_eq_true, if_false, e3, Option.map_some]
    rw [h2]
    rfl
end Go.Proofs.YtkmimjngmfdpmaaGreatDoor
namespace Go.Proofs.YtkmimjngmfdpmaaGreatDoor
open Go

def Lx.tenD : List UInt8 := [48, 49, 50, 51, 52, 53, 54, 55, 56, 57]
theorem Lx.ten_dig (b : UInt8) : Lx.tenD.contains b = Lx.digB b := by
  have h : ∀ n : Fin 256, Lx.tenD.contains (UInt8.ofNat n.val) = Lx.digB (UInt8.ofNat n.val) := by decide +kernel
  have := h ⟨b.toNat, b.toNat_lt⟩
  simpa using this
theorem drop_while_nil {α : Type} (p : α → Bool) : ∀ l : List α, l.dropWhile p = [] ↔ l.all p = true
  | [] => by simp
  | a :: l => by
    rw [List.dropWhile_cons, List.all_cons]
    cases h : p a
    · simp
    · simp [drop_while_nil p l]
theorem drop_while_all {α : Type} (p : α → Bool) : ∀ l : List α, (l.dropWhile p).all p = l.all p
  | [] => rfl
  | a :: l => by
    rw [List.dropWhile_cons]
    cases h : p a
    · simp
    · simp [h, drop_while_all p l]
theorem Lx.trim_dig (l : List UInt8) : (Lib.trimS l Lx.tenD = []) ↔ l.all Lx.digB = true := by
  have e : (fun b => Lx.tenD.contains b) = Lx.digB := funext Lx.ten_dig
  unfold Lib.trimS Lib.trimLeftS Lib.trimRightS
  simp only [e]
  rw [drop_while_nil, List.all_reverse, drop_while_all, List.all_reverse]
end Go.Proofs.YtkmimjngmfdpmaaGreatDoor
