/- groups.family: may a node have the kids that it has. Made by gen_txfam.py. -/
import Derived.Test.YtenmkbpdkfhbjaaGreatRcTxKids
import Derived.RowKit
namespace Tx
def cnt (ns : List Node) (q : Int) (l : List Nat) : Nat := (l.filter fun k => decide (kd ns k = q)).length
theorem cnt_snoc (ns : List Node) (q : Int) (l : List Nat) (k : Nat) : cnt ns q (l ++ [k]) = cnt ns q l + (if kd ns k = q then 1 else 0) := by
 unfold cnt
 rw [List.filter_append, List.length_append]
 congr 1
 by_cases h : kd ns k = q <;> simp [h]
def famK (kd dp par : Int) (m g b a h : Nat) : Bool :=
 if kd ≠ 5 ∧ 0 < h then false else
 if kd = 2 then decide (2 ≤ m) && decide (m ≤ 6) && decide (b = 0) else
 if kd = 3 then decide (2 ≤ m) && decide (m ≤ 6) && decide (a = 0) else
 if kd = 4 then decide (m = 2) && decide (g = 2) else
 if kd = 5 then decide (1 ≤ m) && decide (m ≤ 6) && decide (b = 0) && decide (dp = 0) && (decide (h = 0) || decide (m = 1)) else
 if kd = 7 then decide (2 ≤ m) && decide (m ≤ 6) && decide (b = 0) && (decide (dp = 0) || decide (par = 5)) else true
def famG (ns : List Node) (i : Nat) (par : Int) : Bool := famK (kd ns i) (dp ns i) par (kidsJ ns i).length (cnt ns 1 (kidsJ ns i)) (cnt ns 2 (kidsJ ns i)) (cnt ns 3 (kidsJ ns i)) (cnt ns 7 (kidsJ ns i))
theorem jump_lt {ns : List Node} {e : Nat} : ∀ (f k x : Nat), x ∈ jump ns f k e → x < e
 | 0, k, x, h => by rw [jump] at h; cases h
 | f + 1, k, x, h => by
  rw [jump] at h
  split at h
  ·rcases List.mem_cons.1 h with rfl | h
   ·assumption
   ·exact jump_lt f _ x h
  ·cases h
theorem to_le {ns : List Node} {node : Int} (h : node < ns.length) : toV ns node ≤ ns.length := by
 unfold toV
 split
 ·exact end_le (by omega)
 ·exact Nat.le_refl _
theorem jump_len {ns : List Node} {e : Nat} : ∀ (f k : Nat), (jump ns f k e).length ≤ e - k
 | 0, k => by rw [jump]; exact Nat.zero_le _
 | f + 1, k => by
  rw [jump]
  split
  ·have := jump_len (ns := ns) (e := e) f (endV ns k)
   have := end_gt ns k
   rw [List.length_cons]
   omega
  ·exact Nat.zero_le _
theorem kids_pre {ns : List Node} {node : Int} {pre : List Nat} {k : Nat} (hn : node < ns.length) (h : (pre ++ [k]) <+: kidsJ ns node) : pre.length < ns.length ∧ k < ns.length := by
 have h1 := h.length_le
 have h2 := jump_len (ns := ns) (e := toV ns node) (ns.length + 1) (fromV node)
 have h3 := to_le hn
 have h4 : k ∈ kidsJ ns node := h.subset (by simp)
 have h5 := jump_lt _ _ _ h4
 unfold kidsJ at h1
 rw [List.length_append, List.length_singleton] at h1
 omega
theorem cnt_zero {ns : List Node} {q : Int} {l : List Nat} : cnt ns q l = 0 ↔ ∀ k ∈ l, kd ns k ≠ q := by
 unfold cnt
 rw [List.length_eq_zero_iff, List.filter_eq_nil_iff]
 simp
theorem cnt_all {ns : List Node} {q : Int} : ∀ {l : List Nat}, cnt ns q l = l.length ↔ ∀ k ∈ l, kd ns k = q
 | [] => by simp [cnt]
 | a :: l => by
  have ih := cnt_all (ns := ns) (q := q) (l := l)
  have hle : cnt ns q l ≤ l.length := by unfold cnt; exact List.length_filter_le _ _
  unfold cnt at ih hle ⊢
  rw [List.filter_cons]
  by_cases h : kd ns a = q
  ·simp only [h, decide_true, if_true, List.length_cons, List.mem_cons, forall_eq_or_imp, true_and, Nat.add_right_cancel_iff]
   exact ih
  ·simp only [h, decide_false, Bool.false_eq_true, if_false, List.length_cons, List.mem_cons, forall_eq_or_imp, false_and, iff_false]
   omega
theorem famG_eq {ns : List Node} {i : Nat} {par : Int} (hd : Deep ns) (hi : i < ns.length) (hp : 0 < dp ns i → par = pkV ns i) : famG ns i par = famB ns i := by
 unfold famG famB
 rw [kidsJ_eq hd hi, Bool.eq_iff_iff, decide_eq_true_eq]
 obtain ⟨hk1, hk7⟩ := hd.kinds i hi
 have hp0 := hd.pos i hi
 have h7 := cnt_zero (ns := ns) (q := 7) (l := kidsV ns i)
 have h2 := cnt_zero (ns := ns) (q := 2) (l := kidsV ns i)
 have h3 := cnt_zero (ns := ns) (q := 3) (l := kidsV ns i)
 have h1 := cnt_all (ns := ns) (q := 1) (l := kidsV ns i)
 unfold famP famK
 generalize cnt ns 7 (kidsV ns i) = c7 at *
 generalize cnt ns 2 (kidsV ns i) = c2 at *
 generalize cnt ns 3 (kidsV ns i) = c3 at *
 generalize cnt ns 1 (kidsV ns i) = c1 at *
 rw [← h7, ← h2, ← h3, ← h1]
 generalize (kidsV ns i).length = m at *
 have hpk : (dp ns i = 0 ∨ par = 5) ↔ (dp ns i = 0 ∨ pkV ns i = 5) := by
  rcases Int.lt_or_le 0 (dp ns i) with q | q
  ·rw [hp q]
  ·have : dp ns i = 0 := by omega
   simp [this]
 generalize kd ns i = κ at *
 rcases (show κ = 1 ∨ κ = 2 ∨ κ = 3 ∨ κ = 4 ∨ κ = 5 ∨ κ = 6 ∨ κ = 7 by omega) with rfl | rfl | rfl | rfl | rfl | rfl | rfl
 all_goals simp
 all_goals (first | omega | skip)
 all_goals rw [hpk]
 all_goals omega
theorem fam_2 {κ δ par : Int} {M G B A H : Nat} (hk : κ = 2) (h7 : H = 0) : famK κ δ par M G B A H = (decide ((2 : Int) ≤ (M : Int)) && decide ((M : Int) ≤ 6) && ((B : Int) == 0)) := by
 subst hk
 subst h7
 have e1 : decide ((2 : Int) ≤ (M : Int)) = decide (2 ≤ M) := decide_eq_decide.2 (by omega)
 have e2 : decide ((M : Int) ≤ 6) = decide (M ≤ 6) := decide_eq_decide.2 (by omega)
 have e3 : ((B : Int) == 0) = decide (B = 0) := decide_eq_decide.2 (by omega)
 rw [e1, e2, e3]
 rfl
theorem fam_3 {κ δ par : Int} {M G B A H : Nat} (hk : κ = 3) (h7 : H = 0) : famK κ δ par M G B A H = (decide ((2 : Int) ≤ (M : Int)) && decide ((M : Int) ≤ 6) && ((A : Int) == 0)) := by
 subst hk
 subst h7
 have e1 : decide ((2 : Int) ≤ (M : Int)) = decide (2 ≤ M) := decide_eq_decide.2 (by omega)
 have e2 : decide ((M : Int) ≤ 6) = decide (M ≤ 6) := decide_eq_decide.2 (by omega)
 have e3 : ((A : Int) == 0) = decide (A = 0) := decide_eq_decide.2 (by omega)
 rw [e1, e2, e3]
 rfl
theorem fam_4 {κ δ par : Int} {M G B A H : Nat} (hk : κ = 4) (h7 : H = 0) : famK κ δ par M G B A H = (((M : Int) == 2) && ((G : Int) == 2)) := by
 subst hk
 subst h7
 have e1 : ((M : Int) == 2) = decide (M = 2) := decide_eq_decide.2 (by omega)
 have e2 : ((G : Int) == 2) = decide (G = 2) := decide_eq_decide.2 (by omega)
 rw [e1, e2]
 rfl
theorem fam_5 {κ δ par : Int} {M G B A H : Nat} (hk : κ = 5) : famK κ δ par M G B A H = (decide ((1 : Int) ≤ (M : Int)) && decide ((M : Int) ≤ 6) && ((B : Int) == 0) && (δ == 0) && (((H : Int) == 0) || ((M : Int) == 1))) := by
 subst hk
 have e1 : decide ((1 : Int) ≤ (M : Int)) = decide (1 ≤ M) := decide_eq_decide.2 (by omega)
 have e2 : decide ((M : Int) ≤ 6) = decide (M ≤ 6) := decide_eq_decide.2 (by omega)
 have e3 : ((B : Int) == 0) = decide (B = 0) := decide_eq_decide.2 (by omega)
 have e4 : ((H : Int) == 0) = decide (H = 0) := decide_eq_decide.2 (by omega)
 have e5 : ((M : Int) == 1) = decide (M = 1) := decide_eq_decide.2 (by omega)
 rw [e1, e2, e3, e4, e5]
 unfold famK
 rw [if_neg (by omega), if_neg (by decide), if_neg (by decide), if_neg (by decide), if_pos rfl]
 rfl
theorem fam_7 {κ δ par : Int} {M G B A H : Nat} (hk : κ = 7) (h7 : H = 0) : famK κ δ par M G B A H = (decide ((2 : Int) ≤ (M : Int)) && decide ((M : Int) ≤ 6) && ((B : Int) == 0) && ((δ == 0) || (par == 5))) := by
 subst hk
 subst h7
 have e1 : decide ((2 : Int) ≤ (M : Int)) = decide (2 ≤ M) := decide_eq_decide.2 (by omega)
 have e2 : decide ((M : Int) ≤ 6) = decide (M ≤ 6) := decide_eq_decide.2 (by omega)
 have e3 : ((B : Int) == 0) = decide (B = 0) := decide_eq_decide.2 (by omega)
 rw [e1, e2, e3]
 rfl
end Tx
namespace Go.Proofs.YtenmkbpdkfhbjaaGreat
open Go Go.RowKit
attribute [local go_sem] Oper.semAt_some

theorem bx_cell {w : World} {b : Nat} {v : Value} {t : TypeId} {f : Nat × Nat} (h : w.heap[b]? = some (.cells #[v] t f)) : w.cell? ⟨b, 0, none⟩ = some v := by
 unfold World.cell?
 rw [show w.heap[(⟨b, 0, none⟩ : Addr).block]? = _ from h]
 rfl
theorem bx_free {w : World} {b : Nat} {v : Value} {t : TypeId} (h : w.heap[b]? = some (.cells #[v] t (0, 0))) : w.frozen? ⟨b, 0, none⟩ = false := by
 unfold World.frozen?
 rw [show w.heap[(⟨b, 0, none⟩ : Addr).block]? = _ from h]
 simp
theorem bx_set {w : World} {b : Nat} {v u : Value} {t : TypeId} {f : Nat × Nat} (h : w.heap[b]? = some (.cells #[v] t f)) : (w.setCell ⟨b, 0, none⟩ u).heap[b]? = some (.cells #[u] t f) := by
 simp [World.setCell, Array.getElem?_modify, h]
structure Ctr (Z : Nat) (r : Bool) (m g b a h : Nat) (W : World) : Prop where
 c1 : W.heap[Z + 1]? = some (.cells #[.bool r] 4 (0, 0))
 c3 : W.heap[Z + 3]? = some (.cells #[.int .i64 (m : Int)] 3 (0, 0))
 c4 : W.heap[Z + 4]? = some (.cells #[.int .i64 (g : Int)] 3 (0, 0))
 c5 : W.heap[Z + 5]? = some (.cells #[.int .i64 (b : Int)] 3 (0, 0))
 c6 : W.heap[Z + 6]? = some (.cells #[.int .i64 (a : Int)] 3 (0, 0))
 c7 : W.heap[Z + 7]? = some (.cells #[.int .i64 (h : Int)] 3 (0, 0))
section
variable {Z m g b a h : Nat} {r : Bool} {W W' : World}
theorem Ctr.keep (c : Ctr Z r m g b a h W) (hk : ∀ j, Z < j → j ≤ Z + 7 → W'.heap[j]? = W.heap[j]?) : Ctr Z r m g b a h W' :=
 ⟨(hk _ (by omega) (by omega)).trans c.c1, (hk _ (by omega) (by omega)).trans c.c3, (hk _ (by omega) (by omega)).trans c.c4, (hk _ (by omega) (by omega)).trans c.c5, (hk _ (by omega) (by omega)).trans c.c6, (hk _ (by omega) (by omega)).trans c.c7⟩
theorem ctr_other {W : World} {Z i j : Nat} {v : Value} {o : Obj} (h : W.heap[Z + j]? = some o) (hij : i ≠ j) : (W.setCell ⟨Z + i, 0, none⟩ v).heap[Z + j]? = some o := (Below.heap_setCell _ _ _ _ (by show Z + j ≠ Z + i; omega)).trans h
theorem Ctr.set1 (c : Ctr Z r m g b a h W) (v : Bool) : Ctr Z v m g b a h (W.setCell ⟨Z + 1, 0, none⟩ (.bool v)) := ⟨bx_set c.c1, ctr_other c.c3 (by decide), ctr_other c.c4 (by decide), ctr_other c.c5 (by decide), ctr_other c.c6 (by decide), ctr_other c.c7 (by decide)⟩
theorem Ctr.set3 (c : Ctr Z r m g b a h W) (v : Nat) : Ctr Z r v g b a h (W.setCell ⟨Z + 3, 0, none⟩ (.int .i64 (v : Int))) := ⟨ctr_other c.c1 (by decide), bx_set c.c3, ctr_other c.c4 (by decide), ctr_other c.c5 (by decide), ctr_other c.c6 (by decide), ctr_other c.c7 (by decide)⟩
theorem Ctr.set4 (c : Ctr Z r m g b a h W) (v : Nat) : Ctr Z r m v b a h (W.setCell ⟨Z + 4, 0, none⟩ (.int .i64 (v : Int))) := ⟨ctr_other c.c1 (by decide), ctr_other c.c3 (by decide), bx_set c.c4, ctr_other c.c5 (by decide), ctr_other c.c6 (by decide), ctr_other c.c7 (by decide)⟩
theorem Ctr.set5 (c : Ctr Z r m g b a h W) (v : Nat) : Ctr Z r m g v a h (W.setCell ⟨Z + 5, 0, none⟩ (.int .i64 (v : Int))) := ⟨ctr_other c.c1 (by decide), ctr_other c.c3 (by decide), ctr_other c.c4 (by decide), bx_set c.c5, ctr_other c.c6 (by decide), ctr_other c.c7 (by decide)⟩
theorem Ctr.set6 (c : Ctr Z r m g b a h W) (v : Nat) : Ctr Z r m g b v h (W.setCell ⟨Z + 6, 0, none⟩ (.int .i64 (v : Int))) := ⟨ctr_other c.c1 (by decide), ctr_other c.c3 (by decide), ctr_other c.c4 (by decide), ctr_other c.c5 (by decide), bx_set c.c6, ctr_other c.c7 (by decide)⟩
theorem Ctr.set7 (c : Ctr Z r m g b a h W) (v : Nat) : Ctr Z r m g b a v (W.setCell ⟨Z + 7, 0, none⟩ (.int .i64 (v : Int))) := ⟨ctr_other c.c1 (by decide), ctr_other c.c3 (by decide), ctr_other c.c4 (by decide), ctr_other c.c5 (by decide), ctr_other c.c6 (by decide), bx_set c.c7⟩
end
theorem results_fam (tmps : Array Value) (a1 : Addr) (v1 : Value) (w : World) (h6 : tmps.getD 6 undef = .pointer (some a1)) (c1 : w.cell? a1 = some v1) : (results Tryz.f57 tmps).run Tryz.prog w = .ok v1 w := by
 have h6' : tmps[6]?.getD undef = .pointer (some a1) := by simpa using h6
 simp only [results, show Tryz.f57.results = #[.cell 6 4] from rfl]
 simp [h6', asAddr, loadVar, isAgg, go_sem, c1, Sem.run_bind, Result.andThen]
theorem lt_somT {w : World} {X : Nat} {o : Obj} (h : w.heap[X]? = some o) : X < w.heap.size := (Array.getElem?_eq_some_iff.1 h).1
theorem at_worldF {f : FuncId} {args : Array Value} {W : World} {Q : Ending → World → Prop} (h : ∀ WL, WL = W → Calls Tryz.prog f args WL Q) : Calls Tryz.prog f args W Q := h W rfl
theorem alloc8 (w : World) (o0 o1 o2 o3 o4 o5 o6 o7 : Obj) (W : World) (h : W = (((((((w.alloc o0).alloc o1).alloc o2).alloc o3).alloc o4).alloc o5).alloc o6).alloc o7) :
  W.heap.size = w.heap.size + 8 ∧ Below w.heap.size w W ∧ W.heap[w.heap.size]? = some o0 ∧ W.heap[w.heap.size + 1]? = some o1 ∧ W.heap[w.heap.size + 2]? = some o2 ∧ W.heap[w.heap.size + 3]? = some o3 ∧ W.heap[w.heap.size + 4]? = some o4 ∧ W.heap[w.heap.size + 5]? = some o5 ∧ W.heap[w.heap.size + 6]? = some o6 ∧ W.heap[w.heap.size + 7]? = some o7 := by
 have z0 : ∀ (X : World) (o : Obj), (X.alloc o).heap.size = X.heap.size + 1 := fun X o => by simp
 obtain ⟨W0, h0⟩ : ∃ X, X = w.alloc o0 := ⟨_, rfl⟩
 have s0 : W0.heap.size = w.heap.size + 1 := by rw [h0, z0]
 have n0 : W0.heap[w.heap.size]? = some o0 := by rw [h0]; exact heap_alloc_new _ _
 have k0 : ∀ j, j < w.heap.size → W0.heap[j]? = w.heap[j]? := fun j hj => by rw [h0]; exact Below.heap_alloc _ _ _ hj
 have v0 : Below w.heap.size w W0 := by rw [h0]; exact (Below.refl _ _).alloc (Nat.le_refl _) _
 obtain ⟨W1, h1⟩ : ∃ X, X = W0.alloc o1 := ⟨_, rfl⟩
 have s1 : W1.heap.size = w.heap.size + 2 := by rw [h1, z0]; omega
 have n1 : W1.heap[w.heap.size + 1]? = some o1 := by rw [h1, ← s0]; exact heap_alloc_new _ _
 have k1 : ∀ j, j < W0.heap.size → W1.heap[j]? = W0.heap[j]? := fun j hj => by rw [h1]; exact Below.heap_alloc _ _ _ hj
 have v1 : Below w.heap.size w W1 := by rw [h1]; exact v0.alloc (by omega) _
 obtain ⟨W2, h2⟩ : ∃ X, X = W1.alloc o2 := ⟨_, rfl⟩
 have s2 : W2.heap.size = w.heap.size + 3 := by rw [h2, z0]; omega
 have n2 : W2.heap[w.heap.size + 2]? = some o2 := by rw [h2, ← s1]; exact heap_alloc_new _ _
 have k2 : ∀ j, j < W1.heap.size → W2.heap[j]? = W1.heap[j]? := fun j hj => by rw [h2]; exact Below.heap_alloc _ _ _ hj
 have v2 : Below w.heap.size w W2 := by rw [h2]; exact v1.alloc (by omega) _
 obtain ⟨W3, h3⟩ : ∃ X, X = W2.alloc o3 := ⟨_, rfl⟩
 have s3 : W3.heap.size = w.heap.size + 4 := by rw [h3, z0]; omega
 have n3 : W3.heap[w.heap.size + 3]? = some o3 := by rw [h3, ← s2]; exact heap_alloc_new _ _
 have k3 : ∀ j, j < W2.heap.size → W3.heap[j]? = W2.heap[j]? := fun j hj => by rw [h3]; exact Below.heap_alloc _ _ _ hj
 have v3 : Below w.heap.size w W3 := by rw [h3]; exact v2.alloc (by omega) _
 obtain ⟨W4, h4⟩ : ∃ X, X = W3.alloc o4 := ⟨_, rfl⟩
 have s4 : W4.heap.size = w.heap.size + 5 := by rw [h4, z0]; omega
 have n4 : W4.heap[w.heap.size + 4]? = some o4 := by rw [h4, ← s3]; exact heap_alloc_new _ _
 have k4 : ∀ j, j < W3.heap.size → W4.heap[j]? = W3.heap[j]? := fun j hj => by rw [h4]; exact Below.heap_alloc _ _ _ hj
 have v4 : Below w.heap.size w W4 := by rw [h4]; exact v3.alloc (by omega) _
 obtain ⟨W5, h5⟩ : ∃ X, X = W4.alloc o5 := ⟨_, rfl⟩
 have s5 : W5.heap.size = w.heap.size + 6 := by rw [h5, z0]; omega
 have n5 : W5.heap[w.heap.size + 5]? = some o5 := by rw [h5, ← s4]; exact heap_alloc_new _ _
 have k5 : ∀ j, j < W4.heap.size → W5.heap[j]? = W4.heap[j]? := fun j hj => by rw [h5]; exact Below.heap_alloc _ _ _ hj
 have v5 : Below w.heap.size w W5 := by rw [h5]; exact v4.alloc (by omega) _
 obtain ⟨W6, h6⟩ : ∃ X, X = W5.alloc o6 := ⟨_, rfl⟩
 have s6 : W6.heap.size = w.heap.size + 7 := by rw [h6, z0]; omega
 have n6 : W6.heap[w.heap.size + 6]? = some o6 := by rw [h6, ← s5]; exact heap_alloc_new _ _
 have k6 : ∀ j, j < W5.heap.size → W6.heap[j]? = W5.heap[j]? := fun j hj => by rw [h6]; exact Below.heap_alloc _ _ _ hj
 have v6 : Below w.heap.size w W6 := by rw [h6]; exact v5.alloc (by omega) _
 obtain ⟨W7, h7⟩ : ∃ X, X = W6.alloc o7 := ⟨_, rfl⟩
 have s7 : W7.heap.size = w.heap.size + 8 := by rw [h7, z0]; omega
 have n7 : W7.heap[w.heap.size + 7]? = some o7 := by rw [h7, ← s6]; exact heap_alloc_new _ _
 have k7 : ∀ j, j < W6.heap.size → W7.heap[j]? = W6.heap[j]? := fun j hj => by rw [h7]; exact Below.heap_alloc _ _ _ hj
 have v7 : Below w.heap.size w W7 := by rw [h7]; exact v6.alloc (by omega) _
 have e : W = W7 := by rw [h, h7, h6, h5, h4, h3, h2, h1, h0]
 rw [e]
 refine ⟨s7, v7, ((k7 _ (by omega)).trans ((k6 _ (by omega)).trans ((k5 _ (by omega)).trans ((k4 _ (by omega)).trans ((k3 _ (by omega)).trans ((k2 _ (by omega)).trans ((k1 _ (by omega)).trans n0))))))), ((k7 _ (by omega)).trans ((k6 _ (by omega)).trans ((k5 _ (by omega)).trans ((k4 _ (by omega)).trans ((k3 _ (by omega)).trans ((k2 _ (by omega)).trans n1)))))), ((k7 _ (by omega)).trans ((k6 _ (by omega)).trans ((k5 _ (by omega)).trans ((k4 _ (by omega)).trans ((k3 _ (by omega)).trans n2))))), ((k7 _ (by omega)).trans ((k6 _ (by omega)).trans ((k5 _ (by omega)).trans ((k4 _ (by omega)).trans n3)))), ((k7 _ (by omega)).trans ((k6 _ (by omega)).trans ((k5 _ (by omega)).trans n4))), ((k7 _ (by omega)).trans ((k6 _ (by omega)).trans n5)), ((k7 _ (by omega)).trans n6), n7⟩
theorem size_setT (w : World) (p : Addr) (v : Value) : (w.setCell p v).heap.size = w.heap.size := by simp [World.setCell]
def RetFam (v : Bool) (w : World) (e : Ending) (w' : World) : Prop := e = .returned (.bool v) ∧ Below w.heap.size w w'
set_option maxRecDepth 100000 in
set_option maxHeartbeats 16000000 in
theorem family_any (ns : List Tx.Node) (i : Nat) (par : Int) (w : World) (A : Option Addr) (c : Nat) (h : RdN w w.heap.size (.slice A ns.length c) ns) (hi : i < ns.length) (hn : ns.length ≤ 1000000) :
  Calls Tryz.prog 57 #[.slice A ns.length c, .int .i64 i, .int .i64 par] w (RetFam (Tx.famG ns i par) w) := by
 obtain ⟨bT, off, rfl, hbT, hcell⟩ := RdN.eight h (by omega)
 have HR := Lib.hid h
 have HC := Lib.hid hcell
 have hiI : (i : Int) < (ns.length : Int) := by omega
 have hnI : (ns.length : Int) ≤ 1000000 := by omega
 obtain ⟨f0, f1, f2, f3, f4, f5, f6, f7⟩ := hcell i hi
 have HI := Lib.hid hi
 clear h hcell
 obtain ⟨Z, hZ⟩ : ∃ Z, Z = w.heap.size := ⟨_, rfl⟩
 have HZ := Lib.hid hZ
 refine (callsIn_wide (n := 9)).1 ?_
 refine callsIn_of_wp_marks Tryz.func57 rfl trivial ?_
 simp only [Tryz.ntmps57, List.size_toArray, List.length_cons, List.length_nil, Nat.reduceAdd, Nat.reduceSub, Array.replicate_succ, Array.replicate_zero, List.push_toArray, List.append_toArray, List.nil_append, List.cons_append]
 refine wpIn_wide.2 ?_
 go_wp2_with fail
 simp only [Nat.add_assoc, Nat.reduceAdd]
 rw [← hZ]
 refine at_worldF ?_
 intro WL hWL
 obtain ⟨hsz, hbl, b0, b1, b2, b3, b4, b5, b6, b7⟩ := alloc8 _ _ _ _ _ _ _ _ _ _ hWL
 rw [← hZ] at hsz hbl b0 b1 b2 b3 b4 b5 b6 b7 hbT
 clear hWL
 refine (kids_any _ _ _ _ _).mono ?_
 rintro e w3 ⟨rfl, hw3⟩
 have hbw : Below WL.heap.size WL w3 := by rw [hw3]; exact ((Below.refl _ _).alloc (Nat.le_refl _) _).alloc (by simp) _
 have hs3 : w3.heap.size = Z + 10 := by rw [hw3]; simp; omega
 have hl3 : w3.heap[Z + 8]? = some (.cells #[.slice (some ⟨bT, off, none⟩) ns.length c] 25 (0, 0)) := by rw [hw3, ← hsz]; exact heap_alloc2_old _ _ _
 have hn3 : w3.heap[Z + 9]? = some (.cells #[.int .i64 (i : Int)] 3 (0, 0)) := by rw [hw3, show Z + 9 = WL.heap.size + 1 by omega]; exact heap_alloc2_new _ _ _
 rw [hsz]
 have hbz : Below Z w w3 := hbl.trans (hbw.mono (by omega))
 have hat : KidsAt w3 (Z + 8) (Z + 9) (some ⟨bT, off, none⟩) c ns (i : Int) (fun b => b < Z ∨ b = Z + 8 ∨ b = Z + 9) := by
  refine ⟨hl3, hn3, .inr (.inl rfl), .inr (.inr rfl), (RdX.of HR.out).keep fun b hb => ⟨.inl (by rw [HZ.out]; exact hb), hbz.block b (by rw [HZ.out]; exact hb)⟩, fun b hb => by omega⟩
 have HGV := Lib.hid (kids_gives ns (i : Int) ⟨by omega, hiI⟩ hn w3 _ _ _ c _ hat)
 have a0 := (hbw.block Z (by omega)).trans b0
 have a2 := (hbw.block (Z + 2) (by omega)).trans b2
 have hctr : Ctr Z false 0 0 0 0 0 w3 := ⟨(hbw.block _ (by omega)).trans b1, (hbw.block _ (by omega)).trans b3, (hbw.block _ (by omega)).trans b4, (hbw.block _ (by omega)).trans b5, (hbw.block _ (by omega)).trans b6, (hbw.block _ (by omega)).trans b7⟩
 have HA0 := Lib.hid a0
 have HA2 := Lib.hid a2
 have HCTR := Lib.hid hctr
 have HBZ := Lib.hid hbz
 obtain ⟨κ, hκ⟩ : ∃ κ, κ = (Tx.nd ns i).kind := ⟨_, rfl⟩
 obtain ⟨δ, hδ⟩ : ∃ δ, δ = (Tx.nd ns i).depth := ⟨_, rfl⟩
 rw [← hκ, ← hδ] at HA2
 have Hκ := Lib.hid hκ
 have Hδ := Lib.hid hδ
 clear hw3 hat a0 a2 hctr hbz hl3 hn3 b0 b1 b2 b3 b4 b5 b6 b7 hbl hbw hsz hZ hκ hδ f0 f1 f2 f3 f4 f5 f6 f7
 have OLD : Hid (∀ W' : World, Stays (fun b => ¬ (b = Z + 1 ∨ (Z + 3 ≤ b ∧ b ≤ Z + 7))) w3 W' → W'.cell? ⟨Z, 0, none⟩ = some (.slice (some ⟨bT, off, none⟩) ns.length c) ∧ W'.cell? ⟨Z + 2, 0, none⟩ = some (.int .i64 κ) ∧ W'.cell? ⟨Z + 2, 1, none⟩ = some (.int .i64 δ) ∧ ∀ k, k < ns.length → W'.cell? ⟨bT, off + k * 8, none⟩ = some (.int .i64 (Tx.nd ns k).kind)) := Lib.hid fun W' hs => by
  have q0 := (hs.block Z (by omega) (by omega)).trans HA0.out
  have q2 := (hs.block (Z + 2) (by omega) (by omega)).trans HA2.out
  refine ⟨bx_cell q0, by simp [World.cell?, q2], by simp [World.cell?, q2], fun k hk => ?_⟩
  rw [World.cell?_of_block (w := w) ((hs.block bT (by omega) (by omega)).trans (HBZ.out.block bT hbT))]
  exact (HC.out k hk).1
 go_wp2_with fail
 refine (wpIn_wide (n := 9)).1 (wp_iter (T := fun b => b = Z + 1 ∨ (Z + 3 ≤ b ∧ b ≤ Z + 7)) (ok := fun b => b < Z ∨ b = Z + 8 ∨ b = Z + 9) (gf := 103) (lb := #[.pointer (some ⟨Z + 8, 0, none⟩), .pointer (some ⟨Z + 9, 0, none⟩)]) (E := EKid) rfl (enters_of Tryz.func103 (by kernel_rfl) rfl)
  HGV.out (fun l w args h => by rw [show args = _ from h]; rfl) firm_kid (fun b hb => by omega) (fun b hb => ⟨by omega, by omega⟩)
  (fun pre S' W' => Ctr Z false pre.length (Tx.cnt ns 1 pre) (Tx.cnt ns 2 pre) (Tx.cnt ns 3 pre) (Tx.cnt ns 7 pre) W' ∧ (κ ≠ 5 → Tx.cnt ns 7 pre = 0))
  (fun cd pre S' W' => cd = .ret ∧ W'.heap[Z + 1]? = some (.cells #[.bool false] 4 (0, 0)) ∧ κ ≠ 5 ∧ 0 < Tx.cnt ns 7 pre) ?hI ?hIx ⟨HCTR.out, fun _ => rfl⟩ ?round ?done ?stop)
 case hI =>
  intro pre S' X Y h hs
  have hlt := lt_somT h.1.c7
  exact ⟨h.1.keep fun j h1 h2 => hs.block j (by omega) (.inl (by omega)), h.2⟩
 case hIx =>
  rintro cd pre S' X Y ⟨rfl, h1, h2⟩ hs
  exact ⟨rfl, (hs.block _ (lt_somT h1) (.inl (by omega))).trans h1, h2⟩
 case round =>
  intro m2 l2 pre S' k args W' hl hold hS' hsz hI hpre hE
  have hE' : args = #[.int .i64 (k : Int)] := hE
  subst hE'
  have hlen : pre.length < ns.length ∧ k < ns.length := Tx.kids_pre hiI hpre
  have hkI : (k : Int) < (ns.length : Int) := by omega
  obtain ⟨M, hM⟩ : ∃ M, M = pre.length := ⟨_, rfl⟩
  obtain ⟨G, hG⟩ : ∃ G, G = Tx.cnt ns 1 pre := ⟨_, rfl⟩
  obtain ⟨B, hB⟩ : ∃ B, B = Tx.cnt ns 2 pre := ⟨_, rfl⟩
  obtain ⟨Ab, hAb⟩ : ∃ Ab, Ab = Tx.cnt ns 3 pre := ⟨_, rfl⟩
  obtain ⟨H, hH⟩ : ∃ H, H = Tx.cnt ns 7 pre := ⟨_, rfl⟩
  have hle : ∀ q, Tx.cnt ns q pre ≤ pre.length := fun q => by unfold Tx.cnt; exact List.length_filter_le _ _
  have gI : (G : Int) < 1000000 := by have := hle 1; omega
  have bI : (B : Int) < 1000000 := by have := hle 2; omega
  have aI : (Ab : Int) < 1000000 := by have := hle 3; omega
  have hhI : (H : Int) < 1000000 := by have := hle 7; omega
  have mI : (M : Int) < 1000000 := by omega
  obtain ⟨q, hq⟩ : ∃ q, q = (Tx.nd ns k).kind := ⟨_, rfl⟩
  have HCN : Hid ((pre ++ [k]).length = M + 1 ∧ Tx.cnt ns 1 (pre ++ [k]) = G + (if q = 1 then 1 else 0) ∧ Tx.cnt ns 2 (pre ++ [k]) = B + (if q = 2 then 1 else 0) ∧ Tx.cnt ns 3 (pre ++ [k]) = Ab + (if q = 3 then 1 else 0) ∧ Tx.cnt ns 7 (pre ++ [k]) = H + (if q = 7 then 1 else 0)) := Lib.hid (by
   rw [Tx.cnt_snoc, Tx.cnt_snoc, Tx.cnt_snoc, Tx.cnt_snoc, ← hG, ← hB, ← hAb, ← hH, hM, hq]
   exact ⟨by simp, rfl, rfl, rfl, rfl⟩)
  have HPRE := Lib.hid hpre
  clear hold hS' hI hpre hE hle
  gi_wp2
  refine ⟨Stays.refl _ _, S', fun b hb => .inl hb, fun W3 hs3' hs3'' hI3 hE3 hold3 => ?_⟩
  obtain ⟨q0, q1, q2, q3⟩ := OLD.out W3 hold3
  have qk := q3 k hlen.2
  rw [← hM, ← hG, ← hB, ← hAb, ← hH] at hI3
  rw [← hq] at qk
  obtain ⟨hc, h5⟩ := hI3
  have HCT := Lib.hid hc
  have H5 := Lib.hid h5
  have e1 := bx_cell hc.c1
  have e3 := bx_cell hc.c3
  have e4 := bx_cell hc.c4
  have e5 := bx_cell hc.c5
  have e6 := bx_cell hc.c6
  have e7 := bx_cell hc.c7
  have u1 := bx_free hc.c1
  have u3 := bx_free hc.c3
  have u4 := bx_free hc.c4
  have u5 := bx_free hc.c5
  have u6 := bx_free hc.c6
  have u7 := bx_free hc.c7
  clear hs3' hs3'' hE3 hold3 hc h5 hM hG hB hAb hH hq q3 q2
  by_cases k1 : q = 1
  ·have HQ : Hid (q = 1) := Lib.hid k1
   have t1 : (q == 1) = true := by rw [HQ.out]; rfl
   have t2 : (q == 2) = false := by rw [HQ.out]; rfl
   have t3 : (q == 3) = false := by rw [HQ.out]; rfl
   have t7 : (q == 7) = false := by rw [HQ.out]; rfl
   clear k1
   gi_wp2
   refine ⟨S', ⟨((Stays.setCell W3 ⟨Z + 3, 0, none⟩ _).mono fun b _ hx => (by have h1 := hx.1; show b ≠ Z + 3; omega)).trans ((Stays.setCell _ ⟨Z + 4, 0, none⟩ _).mono fun b _ hx => (by have h1 := hx.1; show b ≠ Z + 4; omega)), fun b hb => .inl hb⟩, ?_, ?_⟩
   ·obtain ⟨x1, x2, x3, x4, x5⟩ := HCN.out
    rw [x1, x2, x3, x4, x5, HQ.out]
    exact (HCT.out.set3 (M + 1)).set4 (G + 1)
   ·intro h; rw [HCN.out.2.2.2.2, HQ.out, H5.out h]; rfl
  by_cases k2 : q = 2
  ·have HQ : Hid (q = 2) := Lib.hid k2
   have t1 : (q == 1) = false := by rw [HQ.out]; rfl
   have t2 : (q == 2) = true := by rw [HQ.out]; rfl
   have t3 : (q == 3) = false := by rw [HQ.out]; rfl
   have t7 : (q == 7) = false := by rw [HQ.out]; rfl
   clear k1 k2
   gi_wp2
   refine ⟨S', ⟨((Stays.setCell W3 ⟨Z + 3, 0, none⟩ _).mono fun b _ hx => (by have h1 := hx.1; show b ≠ Z + 3; omega)).trans ((Stays.setCell _ ⟨Z + 5, 0, none⟩ _).mono fun b _ hx => (by have h1 := hx.1; show b ≠ Z + 5; omega)), fun b hb => .inl hb⟩, ?_, ?_⟩
   ·obtain ⟨x1, x2, x3, x4, x5⟩ := HCN.out
    rw [x1, x2, x3, x4, x5, HQ.out]
    exact (HCT.out.set3 (M + 1)).set5 (B + 1)
   ·intro h; rw [HCN.out.2.2.2.2, HQ.out, H5.out h]; rfl
  by_cases k3 : q = 3
  ·have HQ : Hid (q = 3) := Lib.hid k3
   have t1 : (q == 1) = false := by rw [HQ.out]; rfl
   have t2 : (q == 2) = false := by rw [HQ.out]; rfl
   have t3 : (q == 3) = true := by rw [HQ.out]; rfl
   have t7 : (q == 7) = false := by rw [HQ.out]; rfl
   clear k1 k2 k3
   gi_wp2
   refine ⟨S', ⟨((Stays.setCell W3 ⟨Z + 3, 0, none⟩ _).mono fun b _ hx => (by have h1 := hx.1; show b ≠ Z + 3; omega)).trans ((Stays.setCell _ ⟨Z + 6, 0, none⟩ _).mono fun b _ hx => (by have h1 := hx.1; show b ≠ Z + 6; omega)), fun b hb => .inl hb⟩, ?_, ?_⟩
   ·obtain ⟨x1, x2, x3, x4, x5⟩ := HCN.out
    rw [x1, x2, x3, x4, x5, HQ.out]
    exact (HCT.out.set3 (M + 1)).set6 (Ab + 1)
   ·intro h; rw [HCN.out.2.2.2.2, HQ.out, H5.out h]; rfl
  by_cases k7 : q = 7
  ·have HQ : Hid (q = 7) := Lib.hid k7
   have t1 : (q == 1) = false := by rw [HQ.out]; rfl
   have t2 : (q == 2) = false := by rw [HQ.out]; rfl
   have t3 : (q == 3) = false := by rw [HQ.out]; rfl
   have t7 : (q == 7) = true := by rw [HQ.out]; rfl
   clear k1 k2 k3 k7
   by_cases k5 : κ = 5
   ·have t5 : (κ != 5) = false := by simp [k5]
    have K5 := Lib.hid k5
    clear k5
    gi_wp2
    refine ⟨S', ⟨((Stays.setCell W3 ⟨Z + 3, 0, none⟩ _).mono fun b _ hx => (by have h1 := hx.1; show b ≠ Z + 3; omega)).trans ((Stays.setCell _ ⟨Z + 7, 0, none⟩ _).mono fun b _ hx => (by have h1 := hx.1; show b ≠ Z + 7; omega)), fun b hb => .inl hb⟩, ?_, ?_⟩
    ·obtain ⟨x1, x2, x3, x4, x5⟩ := HCN.out
     rw [x1, x2, x3, x4, x5, HQ.out]
     exact (HCT.out.set3 (M + 1)).set7 (H + 1)
    ·intro h; exact absurd K5.out h
   ·have t5 : (κ == 5) = false := by simp [k5]
    have t5' : (κ != 5) = true := by simp [k5]
    have K5 := Lib.hid k5
    clear k5
    gi_wp2
    refine ⟨S', ⟨(((Stays.setCell W3 ⟨Z + 3, 0, none⟩ _).mono fun b _ hx => (by have h1 := hx.1; show b ≠ Z + 3; omega)).trans ((Stays.setCell _ ⟨Z + 7, 0, none⟩ _).mono fun b _ hx => (by have h1 := hx.1; show b ≠ Z + 7; omega))).trans ((Stays.setCell _ ⟨Z + 1, 0, none⟩ _).mono fun b _ hx => (by have h1 := hx.1; show b ≠ Z + 1; omega)), fun b hb => .inl hb⟩, rfl, (((HCT.out.set3 (M + 1)).set7 (H + 1)).set1 false).c1, K5.out, ?_⟩
    rw [HCN.out.2.2.2.2, HQ.out]
    exact Nat.succ_pos _
  have t1 : (q == 1) = false := by simp [k1]
  have t2 : (q == 2) = false := by simp [k2]
  have t3 : (q == 3) = false := by simp [k3]
  have t7 : (q == 7) = false := by simp [k7]
  have HQ : Hid (q ≠ 1 ∧ q ≠ 2 ∧ q ≠ 3 ∧ q ≠ 7) := Lib.hid ⟨k1, k2, k3, k7⟩
  clear k1 k2 k3 k7
  gi_wp2
  refine ⟨S', ⟨(Stays.setCell W3 ⟨Z + 3, 0, none⟩ _).mono fun b _ hx => (by have h1 := hx.1; show b ≠ Z + 3; omega), fun b hb => .inl hb⟩, ?_, ?_⟩
  ·obtain ⟨x1, x2, x3, x4, x5⟩ := HCN.out
   rw [x1, x2, x3, x4, x5, if_neg HQ.out.1, if_neg HQ.out.2.1, if_neg HQ.out.2.2.1, if_neg HQ.out.2.2.2]
   exact HCT.out.set3 (M + 1)
  ·intro h
   rw [HCN.out.2.2.2.2, if_neg HQ.out.2.2.2, H5.out h]
 case done =>
  intro S' W' hold hS' hsz hI hD
  obtain ⟨M, hM⟩ : ∃ M, M = (Tx.kidsJ ns (i : Int)).length := ⟨_, rfl⟩
  obtain ⟨G, hG⟩ : ∃ G, G = Tx.cnt ns 1 (Tx.kidsJ ns (i : Int)) := ⟨_, rfl⟩
  obtain ⟨B, hB⟩ : ∃ B, B = Tx.cnt ns 2 (Tx.kidsJ ns (i : Int)) := ⟨_, rfl⟩
  obtain ⟨Ab, hAb⟩ : ∃ Ab, Ab = Tx.cnt ns 3 (Tx.kidsJ ns (i : Int)) := ⟨_, rfl⟩
  obtain ⟨H, hH⟩ : ∃ H, H = Tx.cnt ns 7 (Tx.kidsJ ns (i : Int)) := ⟨_, rfl⟩
  have HFK : Hid (Tx.famG ns i par = Tx.famK κ δ par M G B Ab H) := Lib.hid (by rw [hM, hG, hB, hAb, hH, Hκ.out, Hδ.out]; rfl)
  rw [← hM, ← hG, ← hB, ← hAb, ← hH] at hI
  obtain ⟨hc, h5⟩ := hI
  have H5 := Lib.hid h5
  obtain ⟨q0, q1, q2, -⟩ := OLD.out W' hold
  have e1 := bx_cell hc.c1
  have e3 := bx_cell hc.c3
  have e4 := bx_cell hc.c4
  have e5 := bx_cell hc.c5
  have e6 := bx_cell hc.c6
  have e7 := bx_cell hc.c7
  have u1 := bx_free hc.c1
  have HD := Lib.hid hD
  have HMK : Hid (∀ (r : Bool) (D : Nat), D ∈ [w3.heap.size] → (W'.setCell ⟨Z + 1, 0, none⟩ (.bool r)).heap[D]? = some (.deferred (some []))) := Lib.hid fun r D hD' => by
   rw [List.mem_singleton.1 hD']
   exact (Below.heap_setCell _ _ _ _ (by show w3.heap.size ≠ Z + 1; omega)).trans HD.out
  have HEND : Hid (∀ (r : Bool) (W5 : World), Stays (fun b => b ∉ [w3.heap.size]) (W'.setCell ⟨Z + 1, 0, none⟩ (.bool r)) W5 → W5.cell? ⟨Z + 1, 0, none⟩ = some (.bool r) ∧ (Tx.famG ns i par = r → RetFam (Tx.famG ns i par) w (.returned (.bool r)) W5)) := Lib.hid fun r W5 hs5 => by
   have hn5 : ∀ b, b ≠ w3.heap.size → ¬ b ∈ [w3.heap.size] := fun b h q => h (List.mem_singleton.1 q)
   refine ⟨bx_cell ((hs5.block _ (by rw [size_setT]; omega) (hn5 _ (by omega))).trans (hc.set1 r).c1), fun hr => ⟨by rw [hr], ?_⟩⟩
   rw [← HZ.out]
   exact HBZ.out.trans ((hold.below (by omega) fun b hb => by omega).trans (((Below.refl Z W').setCell (p := ⟨Z + 1, 0, none⟩) (by show Z ≤ Z + 1; omega) _).trans (hs5.below (by rw [size_setT]; omega) fun b hb => hn5 b (by omega))))
  clear hold hS' hD hc h5 hM hG hB hAb hH
  by_cases k2 : κ = 2
  ·have HK := Lib.hid k2
   have t2 : (κ == 2) = true := by rw [HK.out]; rfl
   have t3 : (κ == 3) = false := by rw [HK.out]; rfl
   have t4 : (κ == 4) = false := by rw [HK.out]; rfl
   have t5 : (κ == 5) = false := by rw [HK.out]; rfl
   have t7 : (κ == 7) = false := by rw [HK.out]; rfl
   obtain ⟨z1, hz1⟩ : ∃ z, decide ((2 : Int) ≤ (M : Int)) = z := ⟨_, rfl⟩
   obtain ⟨z2, hz2⟩ : ∃ z, decide ((M : Int) ≤ 6) = z := ⟨_, rfl⟩
   obtain ⟨z3, hz3⟩ : ∃ z, ((B : Int) == 0) = z := ⟨_, rfl⟩
   have HV0 : Hid (Tx.famK κ δ par M G B Ab H = (z1 && z2 && z3)) := Lib.hid (by
    rw [← hz1, ← hz2, ← hz3]
    exact Tx.fam_2 HK.out (H5.out (by rw [HK.out]; decide)))
   clear k2
   cases z1 <;> cases z2 <;> cases z3 <;> (have HVAL := HV0; (gi_wp2; go_wp2_with fail; refine leaves_marks [w3.heap.size] _ (by simp) (HMK.out _) (fun W5 hs5 => ?_); refine ⟨_, results_fam _ _ _ _ rfl (HEND.out _ W5 hs5).1, (HEND.out _ W5 hs5).2 ?_⟩; rw [HFK.out]; exact HVAL.out))
  by_cases k3 : κ = 3
  ·have HK := Lib.hid k3
   have t2 : (κ == 2) = false := by rw [HK.out]; rfl
   have t3 : (κ == 3) = true := by rw [HK.out]; rfl
   have t4 : (κ == 4) = false := by rw [HK.out]; rfl
   have t5 : (κ == 5) = false := by rw [HK.out]; rfl
   have t7 : (κ == 7) = false := by rw [HK.out]; rfl
   obtain ⟨z1, hz1⟩ : ∃ z, decide ((2 : Int) ≤ (M : Int)) = z := ⟨_, rfl⟩
   obtain ⟨z2, hz2⟩ : ∃ z, decide ((M : Int) ≤ 6) = z := ⟨_, rfl⟩
   obtain ⟨z3, hz3⟩ : ∃ z, ((Ab : Int) == 0) = z := ⟨_, rfl⟩
   have HV0 : Hid (Tx.famK κ δ par M G B Ab H = (z1 && z2 && z3)) := Lib.hid (by
    rw [← hz1, ← hz2, ← hz3]
    exact Tx.fam_3 HK.out (H5.out (by rw [HK.out]; decide)))
   clear k2 k3
   cases z1 <;> cases z2 <;> cases z3 <;> (have HVAL := HV0; (gi_wp2; go_wp2_with fail; refine leaves_marks [w3.heap.size] _ (by simp) (HMK.out _) (fun W5 hs5 => ?_); refine ⟨_, results_fam _ _ _ _ rfl (HEND.out _ W5 hs5).1, (HEND.out _ W5 hs5).2 ?_⟩; rw [HFK.out]; exact HVAL.out))
  by_cases k4 : κ = 4
  ·have HK := Lib.hid k4
   have t2 : (κ == 2) = false := by rw [HK.out]; rfl
   have t3 : (κ == 3) = false := by rw [HK.out]; rfl
   have t4 : (κ == 4) = true := by rw [HK.out]; rfl
   have t5 : (κ == 5) = false := by rw [HK.out]; rfl
   have t7 : (κ == 7) = false := by rw [HK.out]; rfl
   obtain ⟨z1, hz1⟩ : ∃ z, ((M : Int) == 2) = z := ⟨_, rfl⟩
   obtain ⟨z2, hz2⟩ : ∃ z, ((G : Int) == 2) = z := ⟨_, rfl⟩
   have HV0 : Hid (Tx.famK κ δ par M G B Ab H = (z1 && z2)) := Lib.hid (by
    rw [← hz1, ← hz2]
    exact Tx.fam_4 HK.out (H5.out (by rw [HK.out]; decide)))
   clear k2 k3 k4
   cases z1 <;> cases z2 <;> (have HVAL := HV0; (gi_wp2; go_wp2_with fail; refine leaves_marks [w3.heap.size] _ (by simp) (HMK.out _) (fun W5 hs5 => ?_); refine ⟨_, results_fam _ _ _ _ rfl (HEND.out _ W5 hs5).1, (HEND.out _ W5 hs5).2 ?_⟩; rw [HFK.out]; exact HVAL.out))
  by_cases k5 : κ = 5
  ·have HK := Lib.hid k5
   have t2 : (κ == 2) = false := by rw [HK.out]; rfl
   have t3 : (κ == 3) = false := by rw [HK.out]; rfl
   have t4 : (κ == 4) = false := by rw [HK.out]; rfl
   have t5 : (κ == 5) = true := by rw [HK.out]; rfl
   have t7 : (κ == 7) = false := by rw [HK.out]; rfl
   obtain ⟨z1, hz1⟩ : ∃ z, decide ((1 : Int) ≤ (M : Int)) = z := ⟨_, rfl⟩
   obtain ⟨z2, hz2⟩ : ∃ z, decide ((M : Int) ≤ 6) = z := ⟨_, rfl⟩
   obtain ⟨z3, hz3⟩ : ∃ z, ((B : Int) == 0) = z := ⟨_, rfl⟩
   obtain ⟨z4, hz4⟩ : ∃ z, (δ == 0) = z := ⟨_, rfl⟩
   obtain ⟨z5, hz5⟩ : ∃ z, ((H : Int) == 0) = z := ⟨_, rfl⟩
   obtain ⟨z6, hz6⟩ : ∃ z, ((M : Int) == 1) = z := ⟨_, rfl⟩
   have HV0 : Hid (Tx.famK κ δ par M G B Ab H = (z1 && z2 && z3 && z4 && (z5 || z6))) := Lib.hid (by
    rw [← hz1, ← hz2, ← hz3, ← hz4, ← hz5, ← hz6]
    exact Tx.fam_5 HK.out)
   clear k2 k3 k4 k5
   cases z1 <;> cases z2 <;> cases z3 <;> cases z4 <;> cases z5 <;> cases z6 <;> (have HVAL := HV0; (gi_wp2; go_wp2_with fail; refine leaves_marks [w3.heap.size] _ (by simp) (HMK.out _) (fun W5 hs5 => ?_); refine ⟨_, results_fam _ _ _ _ rfl (HEND.out _ W5 hs5).1, (HEND.out _ W5 hs5).2 ?_⟩; rw [HFK.out]; exact HVAL.out))
  by_cases k7 : κ = 7
  ·have HK := Lib.hid k7
   have t2 : (κ == 2) = false := by rw [HK.out]; rfl
   have t3 : (κ == 3) = false := by rw [HK.out]; rfl
   have t4 : (κ == 4) = false := by rw [HK.out]; rfl
   have t5 : (κ == 5) = false := by rw [HK.out]; rfl
   have t7 : (κ == 7) = true := by rw [HK.out]; rfl
   obtain ⟨z1, hz1⟩ : ∃ z, decide ((2 : Int) ≤ (M : Int)) = z := ⟨_, rfl⟩
   obtain ⟨z2, hz2⟩ : ∃ z, decide ((M : Int) ≤ 6) = z := ⟨_, rfl⟩
   obtain ⟨z3, hz3⟩ : ∃ z, ((B : Int) == 0) = z := ⟨_, rfl⟩
   obtain ⟨z4, hz4⟩ : ∃ z, (δ == 0) = z := ⟨_, rfl⟩
   obtain ⟨z5, hz5⟩ : ∃ z, (par == 5) = z := ⟨_, rfl⟩
   have HV0 : Hid (Tx.famK κ δ par M G B Ab H = (z1 && z2 && z3 && (z4 || z5))) := Lib.hid (by
    rw [← hz1, ← hz2, ← hz3, ← hz4, ← hz5]
    exact Tx.fam_7 HK.out (H5.out (by rw [HK.out]; decide)))
   clear k2 k3 k4 k5 k7
   cases z1 <;> cases z2 <;> cases z3 <;> cases z4 <;> cases z5 <;> (have HVAL := HV0; (gi_wp2; go_wp2_with fail; refine leaves_marks [w3.heap.size] _ (by simp) (HMK.out _) (fun W5 hs5 => ?_); refine ⟨_, results_fam _ _ _ _ rfl (HEND.out _ W5 hs5).1, (HEND.out _ W5 hs5).2 ?_⟩; rw [HFK.out]; exact HVAL.out))
  have t2 : (κ == 2) = false := by simp [k2]
  have t3 : (κ == 3) = false := by simp [k3]
  have t4 : (κ == 4) = false := by simp [k4]
  have t5 : (κ == 5) = false := by simp [k5]
  have t7 : (κ == 7) = false := by simp [k7]
  have HVAL : Hid (Tx.famK κ δ par M G B Ab H = true) := Lib.hid (by
   unfold Tx.famK
   rw [if_neg (by have := H5.out k5; omega), if_neg k2, if_neg k3, if_neg k4, if_neg k5, if_neg k7])
  clear k2 k3 k4 k5 k7
  (gi_wp2; go_wp2_with fail; refine leaves_marks [w3.heap.size] _ (by simp) (HMK.out _) (fun W5 hs5 => ?_); refine ⟨_, results_fam _ _ _ _ rfl (HEND.out _ W5 hs5).1, (HEND.out _ W5 hs5).2 ?_⟩; rw [HFK.out]; exact HVAL.out)
 case stop =>
  rintro cd pre S' W' hold hS' hsz hpre ⟨rfl, i1, i2, i3⟩ hD
  have hcn : 0 < Tx.cnt ns 7 (Tx.kidsJ ns (i : Int)) := by
   obtain ⟨t, ht⟩ := hpre
   rw [← ht]
   have : Tx.cnt ns 7 (pre ++ t) = Tx.cnt ns 7 pre + Tx.cnt ns 7 t := by unfold Tx.cnt; rw [List.filter_append, List.length_append]
   omega
  have hf : Tx.famG ns i par = false := by
   unfold Tx.famG Tx.famK
   rw [if_pos ⟨by unfold Tx.kd; rw [← Hκ.out]; exact i2, hcn⟩]
  have HF := Lib.hid hf
  have HD := Lib.hid hD
  have I1 := Lib.hid i1
  have HOLD := Lib.hid hold
  clear hold hS' hpre i1 i2 i3 hD hcn hf
  gi_wp2
  refine leaves_marks [w3.heap.size] W' (by simp) (fun D hD' => by rw [List.mem_singleton.1 hD']; exact HD.out) (fun W5 hs5 => ?_)
  have hn5 : ∀ b, b ≠ w3.heap.size → ¬ b ∈ [w3.heap.size] := fun b h q => h (List.mem_singleton.1 q)
  refine ⟨_, results_fam _ _ _ _ rfl (bx_cell ((hs5.block _ (by omega) (hn5 _ (by omega))).trans I1.out)), ?_⟩
  rw [HF.out]
  refine ⟨rfl, ?_⟩
  rw [← HZ.out]
  exact HBZ.out.trans ((HOLD.out.below (by omega) fun b hb => by omega).trans (hs5.below (by omega) fun b hb => hn5 b (by omega)))
end Go.Proofs.YtenmkbpdkfhbjaaGreat
