/- slices.Insert at []*tail ahead of an element: in place, or into a new row (the two roads of the shelf's Insert at strings, turned to this type). -/
import Derived.Test.YtpmnpnlfgfleeaaGreatDoorMgTails
import Derived.Shelf.Spec.SlicesInsert
import Derived.Lib.AppendZerosOnto
import Derived.Laws.NewBlocks
import Derived.Shelf.RegionOpenPlain
namespace Go.Proofs.YtpmnpnlfgfleeaaGreatDoor
open Go.RowKit Go.Shelf Go.Lib

set_option maxHeartbeats 4000000 in
set_option maxRecDepth 100000 in
theorem insert_shift (b n c i vb vc : Nat) (p : Option Addr) (cs : List Value) (w : World) (hi : i < n) (hroom : n + 1 ≤ c) (hc63 : c ≤ 9223372036854775807) (hvb : vb ≠ b)
    (hcl : cs.length = n) (hcs : ∀ j v, cs[j]? = some v → w.cell? ⟨b, j, none⟩ = some v) (hsp : ∀ j, j < n + 1 → (w.cell? ⟨b, j, none⟩).isSome = true) (hfz : ∀ j, j < n + 1 → w.frozen? ⟨b, j, none⟩ = false)
    (hvs : w.cell? ⟨vb, 0, none⟩ = some (.pointer p)) (h1c : ∀ v ∈ cs, v.oneCell' = true)
    (tA tB : TypeId) (kA kB : Nat) (hsa : w.shape? vb = some (tA, kA)) (hsb : w.shape? b = some (tB, kB)) (hkB : kB ≠ 0) (hfa : w.frozen? ⟨vb, 0, none⟩ = false) (hfe : w.frozen? ⟨vb, kA, none⟩ = false) :
    Calls Tryz.prog 93 #[.slice (some ⟨b, 0, none⟩) n c, .int .i64 i, .slice (some ⟨vb, 0, none⟩) 1 vc] w fun e w' =>
      e = .returned (.slice (some ⟨b, 0, none⟩) (n + 1) c) ∧ w' = (w.drew.setCells b (i + 1) (cs.drop i)).setCells b i [.pointer p] := by
  have mixed : Tryz.prog.follows .mixedOrders = true := by kernel_rfl
  have u0 := run_underlying Tryz.underlying110
  have hz2 : ¬ ((i : Int) = (n : Int)) := by omega
  have hsz : (Tryz.prog.info? 114).map (·.size) = some 1 := by
    obtain ⟨i0, hi0, h0, h1, h2⟩ := info_parts info_ptail
    rw [hi0]; simp [h1]
  have hov : ∀ lb cb, (callFunc 109 #[.slice (some ⟨vb, 0, none⟩) 1 vc, .slice (some ⟨b, i + 1, none⟩) lb cb]).run Tryz.prog w = .ok (.value (.bool false)) w := fun lb cb => by
    rw [run_callFunc_extern Tryz.func109 (by kernel_rfl) (by kernel_rfl) (by kernel_rfl) (e := Extern.SlicesOverlaps.overlaps #[110, 110] #[4]) (by kernel_rfl),
      Lib.run_overlaps_apart w 110 4 114 Tryz.underlying110 1 Tryz.sizeOf114 ⟨vb, 0, none⟩ ⟨b, i + 1, none⟩ 1 vc lb cb hvb tA tB kA kB hsa hsb hkB hfa hfe]
    rfl
  have hdl : (cs.drop i).length = n - i := by rw [List.length_drop, hcl]
  have hw1 : IntKind.i64.wrap ((i : Int) + 1) = (i : Int) + 1 := by rw [IntKind.wrap_i64]; omega
  have hb1 : (0 : Int) ≤ (i : Int) + 1 := by omega
  have hin : i ≤ n := by omega
  have htn : ((i : Int) + 1).toNat = i + 1 := by omega
  have hb2 : ¬ (c = i + 1) := by omega
  have hb3 : (i : Int) ≤ (n : Int) + 1 := by omega
  have hb4 : ¬ (c = i) := by omega
  have hcp1 : ∀ ty dc sc, (Builtin.copy_ #[110, 110] ty #[.slice (some ⟨b, i + 1, none⟩) (n - i) dc, .slice (some ⟨b, i, none⟩) (n + 1 - i) sc]).run Tryz.prog w.drew = .ok (goInt (cs.drop i).length) (w.drew.setCells b (i + 1) (cs.drop i)) := fun ty dc sc =>
    run_copy_cells w.drew _ _ ty 114 b (i + 1) (n - i) dc ⟨b, i, none⟩ (n + 1 - i) sc (cs.drop i) Tryz.underlying110 hsz (by rw [hdl]; simp only [Nat.min_def]; split <;> omega)
      (fun j v hj => by rw [Addr.add_lit]; exact hcs (i + j) v (by rwa [List.getElem?_drop] at hj))
      (fun j hj => hsp _ (by omega)) (fun j hj => hfz _ (by omega)) (fun v hv => h1c v (List.mem_of_mem_drop hv))
  obtain ⟨W1, hW1⟩ : ∃ W1, W1 = w.drew.setCells b (i + 1) (cs.drop i) := ⟨_, rfl⟩
  have hsp1 : ∀ k, k < n + 1 → (W1.cell? ⟨b, k, none⟩).isSome = true := fun k hk => by
    rw [hW1]
    exact isSome_setCells b (cs.drop i) (i + 1) w.drew (fun j hj => hsp (i + 1 + j) (by omega)) k (hsp k hk)
  have hcp2 : ∀ (W : World), (∀ x, W.cell? x = W1.cell? x) → (∀ x, W.frozen? x = W1.frozen? x) → ∀ ty dc, (Builtin.copy_ #[110, 110] ty #[.slice (some ⟨b, i, none⟩) (n + 1 - i) dc, .slice (some ⟨vb, 0, none⟩) 1 vc]).run Tryz.prog W = .ok (goInt [Value.pointer p].length) (W.setCells b i [.pointer p]) := fun W hWc hWf ty dc =>
    run_copy_cells W _ _ ty 114 b i (n + 1 - i) dc ⟨vb, 0, none⟩ 1 vc [.pointer p] Tryz.underlying110 hsz (by simp only [Nat.min_def, List.length_singleton]; split <;> omega)
      (fun j v hj => by
        rw [Addr.add_lit, hWc, hW1, World.cell?_setCells_out b _ _ _ _ (fun h _ => absurd h hvb)]
        cases j with
        | zero => simp at hj; subst hj; exact hvs
        | succ j => simp at hj)
      (fun j hj => by rw [hWc]; exact hsp1 _ (by have : j < 1 := hj; omega)) (fun j hj => by rw [hWf, hW1, World.frozen?_setCells]; exact hfz _ (by have : j < 1 := hj; omega)) (fun v hv => by simp at hv; subst hv; rfl)
  rw [← hW1] at hcp1
  go_enter Tryz.func93, Tryz.ntmps93
  go_wp2_with (simp only [hov])
  go_region_law_o (refine step_copy_runI rfl _ _ 110 110 rfl _ _ (by simp [Act.eval, Act.put]) (by simp [Act.eval, Act.put]) (hcp1 _ _ _) ?_)
  go_wp2_with (at_builtin; refine wpList_copy_runI _ rfl _ _ 110 110 rfl _ _ rfl rfl (hcp2 _ (fun _ => rfl) (fun _ => rfl) _ _) ?_)
  go_ret
  first | exact ⟨rfl, rfl⟩ | exact ⟨rfl, by rw [hW1]⟩

set_option maxHeartbeats 4000000 in
set_option maxRecDepth 100000 in
theorem insert_grow (b n c i vb vc : Nat) (p : Option Addr) (cs : List Value) (w : World) (hi : i < n) (hnc : n ≤ c) (hroom : c < n + 1) (hbig : (n + 1) * 8 ≤ 140737488355328)
    (hcl : cs.length = n) (hcs : ∀ j v, cs[j]? = some v → w.cell? ⟨b, j, none⟩ = some v) (hvs : w.cell? ⟨vb, 0, none⟩ = some (.pointer p)) (h1c : ∀ v ∈ cs, v.oneCell' = true) :
    Calls Tryz.prog 93 #[.slice (some ⟨b, 0, none⟩) n c, .int .i64 i, .slice (some ⟨vb, 0, none⟩) 1 vc] w fun e w' =>
      e = .returned (.slice (some ⟨w.heap.size, 0, none⟩) (n + 1) (grownCap w (n + 1) c 114)) ∧
      w' = (((w.alloc (.cells ((cs.take i).toArray ++ Builtin.zeroCells (Value.pointer none).cells (n + 1 - i) ++ Builtin.zeroCells (Value.pointer none).cells (grownCap w (n + 1) c 114 - (n + 1))) 114)).drew.setCells w.heap.size i [.pointer p]).drew).setCells w.heap.size (i + 1) (cs.drop i) := by
  have mixed : Tryz.prog.follows .mixedOrders = true := by kernel_rfl
  have u0 := run_underlying Tryz.underlying110
  obtain ⟨i0, hi0, hz0, hzs, hzb⟩ := info_parts info_ptail
  have hz2 : ¬ ((i : Int) = (n : Int)) := by omega
  have hz3 : (c : Int) < (n : Int) + 1 := by omega
  have hsz : (Tryz.prog.info? 114).map (·.size) = some 1 := by rw [hi0]; simp [hzs]
  have hbw : b < w.heap.size := block_lt_of_cell (hcs 0 _ (List.getElem?_eq_getElem (by omega)))
  have hvw : vb < w.heap.size := block_lt_of_cell hvs
  have hkk : (n : Int) + 1 - (i : Int) = ((n + 1 - i : Nat) : Int) := by omega
  have hik : i + (n + 1 - i) = n + 1 := by omega
  have hold : (Builtin.firstCells i0.size i (.slice (some ⟨b, 0, none⟩) i c)).run Tryz.prog w.drew = .ok (cs.take i).toArray w.drew := by
    rw [hzs]
    exact run_firstCells_some w.drew 1 i ⟨b, 0, none⟩ i c (cs.take i) (by rw [List.length_take]; omega) (fun j v hj => by
      rw [Addr.add_lit, Nat.zero_add]
      rw [List.getElem?_take] at hj
      split at hj
      · exact hcs j v hj
      · cases hj)
  have hrz : ∀ ty, (Builtin.append_ #[110, 3] ty #[.slice (some ⟨b, 0, none⟩) i c, .int .i64 ((n : Int) + 1 - (i : Int))]).run Tryz.prog w =
      .ok (.slice (some ⟨w.heap.size, 0, none⟩) (n + 1) (grownCap w (n + 1) c 114)) (w.drew.alloc (.cells ((cs.take i).toArray ++ Builtin.zeroCells (Value.pointer none).cells (n + 1 - i) ++ Builtin.zeroCells (Value.pointer none).cells (grownCap w (n + 1) c 114 - (n + 1))) 114)) := fun ty => by
    have h := Lib.run_append_grow_zeros w 110 3 ty 114 i0 _ .i64 .i64 Tryz.underlying110 Tryz.underlying3 hi0 hz0 (some ⟨b, 0, none⟩) i c (cs.take i) hold (n + 1 - i) (by omega) (by omega) (by omega) (by omega) (by rw [hzb]; omega) (by rw [hzb, hik]; exact growslice_fits hroom hbig)
    rw [hik] at h
    rw [hkk]
    exact h
  obtain ⟨G, hG⟩ : ∃ G, G = grownCap w (n + 1) c 114 := ⟨_, rfl⟩
  obtain ⟨ROW, hROW⟩ : ∃ ROW : Array Value, ROW = (cs.take i).toArray ++ Builtin.zeroCells (Value.pointer none).cells (n + 1 - i) ++ Builtin.zeroCells (Value.pointer none).cells (G - (n + 1)) := ⟨_, rfl⟩
  rw [← hG] at hrz ⊢
  rw [← hROW] at hrz ⊢
  have hRl : n + 1 ≤ ROW.size := by
    rw [hROW]
    simp [Builtin.zeroCells, Value.cells]
    omega
  obtain ⟨W1, hW1⟩ : ∃ W1, W1 = w.drew.alloc (.cells ROW 114) := ⟨_, rfl⟩
  rw [← hW1] at hrz
  have hN : ∀ j, j < n + 1 → (W1.cell? ⟨w.heap.size, j, none⟩).isSome = true := fun j hj => by
    rw [hW1, World.cell?_alloc_at (w := w.drew) ROW _ w.heap.size j rfl, Array.getElem?_eq_getElem (by omega)]; rfl
  have hNf : ∀ j, W1.frozen? ⟨w.heap.size, j, none⟩ = false := fun j => by rw [hW1]; exact World.frozen?_alloc_at (w := w.drew) ROW _ w.heap.size j rfl
  have hOb : ∀ j v, w.cell? ⟨b, j, none⟩ = some v → W1.cell? ⟨b, j, none⟩ = some v := fun j v h => by rw [hW1, World.cell?_alloc_past (w := w.drew) _ b j hbw]; exact h
  have hOv : ∀ j v, w.cell? ⟨vb, j, none⟩ = some v → W1.cell? ⟨vb, j, none⟩ = some v := fun j v h => by rw [hW1, World.cell?_alloc_past (w := w.drew) _ vb j hvw]; exact h
  have hcpA : ∀ (W : World), (∀ x, W.cell? x = W1.cell? x) → (∀ x, W.frozen? x = W1.frozen? x) → ∀ ty dc, (Builtin.copy_ #[110, 110] ty #[.slice (some ⟨w.heap.size, i, none⟩) (n + 1 - i) dc, .slice (some ⟨vb, 0, none⟩) 1 vc]).run Tryz.prog W = .ok (goInt [Value.pointer p].length) (W.setCells w.heap.size i [.pointer p]) := fun W hWc hWf ty dc =>
    run_copy_cells W _ _ ty 114 w.heap.size i (n + 1 - i) dc ⟨vb, 0, none⟩ 1 vc [.pointer p] Tryz.underlying110 hsz (by simp only [Nat.min_def, List.length_singleton]; split <;> omega)
      (fun j v hj => by
        rw [Addr.add_lit, hWc]
        cases j with
        | zero => simp at hj; subst hj; exact hOv 0 _ hvs
        | succ j => simp at hj)
      (fun j hj => by rw [hWc]; exact hN _ (by have : j < 1 := hj; omega)) (fun j hj => by rw [hWf]; exact hNf _) (fun v hv => by simp at hv; subst hv; rfl)
  have hGn : n + 1 ≤ G := by rw [hG]; exact grownCap_ge w _ _ _
  have hG63 : G ≤ 9223372036854775807 := by
    have := grownCap_le_maxLen w (n + 1) c 114 (by unfold maxLen; omega)
    rw [← hG] at this
    unfold maxLen at this
    omega
  have hGi : ¬ (G = i) := by omega
  have hGim : ¬ (G = i + 1) := by omega
  have hci : ¬ (c = i) := by omega
  have hbN : b ≠ w.heap.size := by omega
  have hdl : (cs.drop i).length = n - i := by rw [List.length_drop, hcl]
  have hcpB : ∀ (W : World), (∀ x, W.cell? x = (W1.setCells w.heap.size i [.pointer p]).cell? x) → (∀ x, W.frozen? x = (W1.setCells w.heap.size i [.pointer p]).frozen? x) → ∀ ty dc sc, (Builtin.copy_ #[110, 110] ty #[.slice (some ⟨w.heap.size, i + 1, none⟩) (n - i) dc, .slice (some ⟨b, i, none⟩) (n - i) sc]).run Tryz.prog W = .ok (goInt (cs.drop i).length) (W.setCells w.heap.size (i + 1) (cs.drop i)) := fun W hWc hWf ty dc sc =>
    run_copy_cells W _ _ ty 114 w.heap.size (i + 1) (n - i) dc ⟨b, i, none⟩ (n - i) sc (cs.drop i) Tryz.underlying110 hsz (by rw [hdl]; simp only [Nat.min_def]; split <;> omega)
      (fun j v hj => by
        rw [Addr.add_lit, hWc, World.cell?_setCells_out _ _ _ _ _ (fun h _ => absurd h hbN)]
        exact hOb _ v (hcs (i + j) v (by rwa [List.getElem?_drop] at hj)))
      (fun j hj => by rw [hWc]; exact isSome_setCells _ _ _ _ (fun t ht => hN _ (by have : t < 1 := ht; omega)) _ (hN _ (by omega)))
      (fun j hj => by rw [hWf, World.frozen?_setCells]; exact hNf _) (fun v hv => h1c v (List.mem_of_mem_drop hv))
  subst hW1
  have hE1 : ∀ x, ((w.alloc (.cells ROW 114)).drew).cell? x = (w.drew.alloc (.cells ROW 114)).cell? x := fun x => rfl
  have hE2 : ∀ x, ((w.alloc (.cells ROW 114)).drew).frozen? x = (w.drew.alloc (.cells ROW 114)).frozen? x := fun x => rfl
  have hF1 : ∀ x, (((w.alloc (.cells ROW 114)).drew.setCells w.heap.size i [.pointer p]).drew).cell? x = ((w.drew.alloc (.cells ROW 114)).setCells w.heap.size i [.pointer p]).cell? x := fun x => rfl
  have hF2 : ∀ x, (((w.alloc (.cells ROW 114)).drew.setCells w.heap.size i [.pointer p]).drew).frozen? x = ((w.drew.alloc (.cells ROW 114)).setCells w.heap.size i [.pointer p]).frozen? x := fun x => rfl
  have hw1 : IntKind.i64.wrap ((i : Int) + 1) = (i : Int) + 1 := by rw [IntKind.wrap_i64]; omega
  have hb1 : (0 : Int) ≤ (i : Int) + 1 := by omega
  have hin : i ≤ n := by omega
  have htn : ((i : Int) + 1).toNat = i + 1 := by omega
  have hb3 : (i : Int) ≤ (n : Int) := by omega
  clear hkk hik hold hROW hG hRl
  go_enter Tryz.func93, Tryz.ntmps93
  go_wp2_with (first
    | (at_builtin; refine Lib.wpList_append_run _ rfl _ _ _ _ rfl _ _ rfl rfl _ _ (hrz _) ?_)
    | (at_builtin; refine wpList_copy_runI _ rfl _ _ 110 110 rfl _ _ rfl rfl (hcpA _ hE1 hE2 _ _) ?_)
    | (at_builtin; refine wpList_copy_runI _ rfl _ _ 110 110 rfl _ _ rfl rfl (hcpB _ (fun _ => rfl) (fun _ => rfl) _ _ _) ?_))
  go_region_law_o (refine step_copy_runI rfl _ _ 110 110 rfl (.slice (some ⟨w.heap.size, i + 1, none⟩) (n - i) (G - (i + 1))) (.slice (some ⟨b, i, none⟩) (n - i) (c - i)) (by simp [Act.eval, Act.put]) (by simp [Act.eval, Act.put]) (hcpB _ hF1 hF2 3 (G - (i + 1)) (c - i)) ?_)
  go_wp2_with fail
  go_ret
  exact ⟨rfl, rfl⟩

theorem grown_setCells (g : Nat) : ∀ (vs : List Value) (o : Nat) (w : World), w.grownBy (w.setCells g o vs) (some g)
  | [], _, w => ⟨rfl, rfl, rfl, Nat.le_refl _, fun _ _ _ => rfl⟩
  | v :: r, o, w => by
    rw [World.setCells]
    exact grown_after (grown_setCell w g o v) (grown_setCells g r (o + 1) _) (.inl rfl)
theorem block_setCells (g : Nat) (t : TypeId) (fr : Nat × Nat) : ∀ (vs : List Value) (o : Nat) (w : World) (cur : Array Value), w.heap[g]? = some (.cells cur t fr) → ∃ cur' : Array Value, (w.setCells g o vs).heap[g]? = some (.cells cur' t fr) ∧ cur'.size = cur.size
  | [], _, w, cur, h => ⟨cur, h, rfl⟩
  | v :: r, o, w, cur, h => by
    rw [World.setCells]
    obtain ⟨cur', h1, h2⟩ := block_setCells g t fr r (o + 1) (w.setCell ⟨g, o, none⟩ v) (cur.setIfInBounds o v) (by simp [World.setCell, Array.getElem?_modify, h])
    exact ⟨cur', h1, by simpa using h2⟩
/-- one more ahead of the i-th -/
def insAt (xs : List Value) (i : Nat) (u : Value) : List Value := xs.take i ++ u :: xs.drop i
theorem insAt_len {xs : List Value} {i : Nat} {u : Value} (h : i ≤ xs.length) : (insAt xs i u).length = xs.length + 1 := by
  unfold insAt
  rw [List.length_append, List.length_cons, List.length_take, List.length_drop]
  omega
theorem insAt_at {xs : List Value} {i : Nat} {u : Value} (h : i ≤ xs.length) (j : Nat) : (insAt xs i u)[j]? = if j < i then xs[j]? else if j = i then some u else xs[j - 1]? := by
  unfold insAt
  by_cases h1 : j < i
  · rw [if_pos h1, List.getElem?_append_left (by rw [List.length_take]; omega), List.getElem?_take, if_pos h1]
  · rw [if_neg h1, List.getElem?_append_right (by rw [List.length_take]; omega), List.length_take]
    by_cases h2 : j = i
    · rw [if_pos h2, show j - min i xs.length = 0 by omega]
      rfl
    · rw [if_neg h2, show j - min i xs.length = (j - i - 1) + 1 by omega, List.getElem?_cons_succ, List.getElem?_drop, show i + (j - i - 1) = j - 1 by omega]
theorem row_from {w : World} {base g cap n : Nat} {cur : Array Value} {ys : List Value} (hb : base ≤ g) (hh : w.heap[g]? = some (.cells cur 114 (0, 0))) (hn : n ≤ cap) (hm : cap ≤ maxLen) (hs : cur.size = cap) (hl : ys.length = n) (hy : ∀ j, j < n → w.cell? ⟨g, j, none⟩ = ys[j]?) :
    w.ownsRow base 114 1 (.slice (some ⟨g, 0, none⟩) n cap) n ys := by
  refine ⟨by omega, .inr ⟨g, cap, cur, rfl, hb, hh, hn, hm, by omega, ?_⟩⟩
  rw [Nat.mul_one]
  refine List.ext_getElem? fun j => ?_
  rw [List.getElem?_take]
  split
  · rename_i hj
    rw [← hy j hj]
    simp [World.cell?, hh]
  · rw [List.getElem?_eq_none (by omega)]

set_option maxHeartbeats 2000000 in
theorem insert_mid (w : World) (base i n : Nat) (p : Option Addr) (v : Value) (xs : List Value) (hown : w.ownsRow base 114 1 v n xs) (hone : ∀ u ∈ xs, u.oneCell' = true) (hi : i < n) (hn : n ≤ 1000) (hbase : base ≤ w.heap.size) : InsSays w base i n p v xs (insAt xs i (.pointer p)) := by
  intro W gu hW hgu hgul
  have hxl : xs.length = n := by have := hown.1; omega
  have hownW : W.ownsRow base 114 1 v n xs := hown.kept (grown_of_below (row := none) hW) (by
    rcases hown.2 with ⟨e, _⟩ | ⟨g, cap, cur, e, _⟩
    · rw [e]; exact .inl rfl
    · rw [e]; exact .inr (by simp [Value.ownBlock]))
  have hgw := hown.lt
  rcases hownW.2 with ⟨_, h0⟩ | ⟨g, cap, cur, rfl, hg, hh, hle, hm, hs, ht⟩
  · omega
  · have hgl : g < w.heap.size := (hgw g rfl).2
    have hbW : base ≤ W.heap.size := Nat.le_trans hbase hW.size
    have hcell : ∀ j u, xs[j]? = some u → W.cell? ⟨g, j, none⟩ = some u := fun j u hu => by
      have := hownW.cells rfl j u hu
      rwa [addr_add, Nat.zero_add] at this
    have hne : gu ≠ g := by omega
    have hvs : W.cell? ⟨gu, 0, none⟩ = some (.pointer p) := by simp [World.cell?, hgu]
    have hm63 : cap ≤ 9223372036854775807 := by simpa [maxLen] using hm
    have hdl : (xs.drop i).length = n - i := by rw [List.length_drop, hxl]
    by_cases hroom : n + 1 ≤ cap
    · have hso : ∀ j, j < n + 1 → (W.cell? ⟨g, j, none⟩).isSome = true := fun j hj => by
        simp only [World.cell?, hh]
        rw [Array.getElem?_eq_getElem (by omega)]
        rfl
      have hfz : ∀ j, W.frozen? ⟨g, j, none⟩ = false := fun j => by simp [World.frozen?, hh]
      refine (insert_shift g n cap i gu 1 p xs W hi hroom hm63 hne hxl hcell hso (fun j _ => hfz j) hvs hone 114 114 1 cur.size (by simp [World.shape?, hgu]) (by simp [World.shape?, hh]) (by omega) (by simp [World.frozen?, hgu]) (by simp [World.frozen?, hgu])).mono ?_
      rintro e w' ⟨rfl, rfl⟩
      obtain ⟨cur1, hh1, hs1⟩ := block_setCells g 114 (0, 0) (xs.drop i) (i + 1) W.drew cur hh
      obtain ⟨cur2, hh2, hs2⟩ := block_setCells g 114 (0, 0) [.pointer p] i (W.drew.setCells g (i + 1) (xs.drop i)) cur1 hh1
      have hso1 : ∀ j, j < n + 1 → ((W.drew.setCells g (i + 1) (xs.drop i)).cell? ⟨g, j, none⟩).isSome = true := fun j hj => isSome_setCells g (xs.drop i) (i + 1) W.drew (fun j hj => hso _ (by omega)) j (hso j hj)
      refine ⟨_, _, rfl, row_from hg hh2 (by omega) hm (by omega) (by rw [insAt_len (by omega)]; omega) (fun j hj => ?_), ?_⟩
      · rw [insAt_at (by omega)]
        by_cases h1 : j < i
        · rw [if_pos h1, World.cell?_setCells_out _ _ _ _ _ (fun _ _ => .inl h1), World.cell?_setCells_out _ _ _ _ _ (fun _ _ => .inl (by show j < i + 1; omega))]
          obtain ⟨u, hu⟩ : ∃ u, xs[j]? = some u := ⟨_, List.getElem?_eq_getElem (by omega)⟩
          rw [hu]
          exact hcell j u hu
        · rw [if_neg h1]
          by_cases h2 : j = i
          · rw [if_pos h2, h2]
            have := World.cell?_setCells_in g [Value.pointer p] i (W.drew.setCells g (i + 1) (xs.drop i)) (fun t ht => hso1 _ (by have : t < 1 := ht; omega)) 0 (by simp)
            simpa using this
          · rw [if_neg h2, World.cell?_setCells_out _ _ _ _ _ (fun _ _ => .inr (by show i + 1 ≤ j; omega))]
            have := World.cell?_setCells_in g (xs.drop i) (i + 1) W.drew (fun t ht => hso _ (by omega)) (j - (i + 1)) (by omega)
            rw [show i + 1 + (j - (i + 1)) = j by omega] at this
            rw [this, ← List.getElem?_eq_getElem, List.getElem?_drop, show i + (j - (i + 1)) = j - 1 by omega]
      · have h0 : W.grownBy W.drew (some g) := ⟨rfl, rfl, rfl, Nat.le_refl _, fun _ _ _ => rfl⟩
        have h1 := grown_after h0 (grown_setCells g (xs.drop i) (i + 1) W.drew) (.inl rfl)
        exact grown_after h1 (grown_setCells g [.pointer p] i _) (.inl rfl)
    · refine (insert_grow g n cap i gu 1 p xs W hi hle (by omega) (by omega) hxl hcell hvs hone).mono ?_
      rintro e w' ⟨rfl, rfl⟩
      obtain ⟨ROW, hROW⟩ : ∃ ROW : Array Value, ROW = (xs.take i).toArray ++ Builtin.zeroCells (Value.pointer none).cells (n + 1 - i) ++ Builtin.zeroCells (Value.pointer none).cells (grownCap W (n + 1) cap 114 - (n + 1)) := ⟨_, rfl⟩
      rw [← hROW]
      have hGn : n + 1 ≤ grownCap W (n + 1) cap 114 := grownCap_ge W _ _ _
      have hGm : grownCap W (n + 1) cap 114 ≤ maxLen := grownCap_le_maxLen W (n + 1) cap 114 (by unfold maxLen; omega)
      generalize hG : grownCap W (n + 1) cap 114 = G at *
      have hRs : ROW.size = G := by
        rw [hROW]
        simp [Builtin.zeroCells, Value.cells]
        omega
      have hRt : ∀ j, j < i → ROW[j]? = xs[j]? := fun j hj => by
        rw [hROW, Array.append_assoc, Array.getElem?_append_left (by simp; omega)]
        simp [hj]
      have ha : (W.alloc (.cells ROW 114)).drew.heap[W.heap.size]? = some (.cells ROW 114 (0, 0)) := heap_alloc_new _ _
      obtain ⟨cur1, hh1, hs1⟩ := block_setCells W.heap.size 114 (0, 0) [.pointer p] i (W.alloc (.cells ROW 114)).drew ROW ha
      obtain ⟨cur2, hh2, hs2⟩ := block_setCells W.heap.size 114 (0, 0) (xs.drop i) (i + 1) ((W.alloc (.cells ROW 114)).drew.setCells W.heap.size i [.pointer p]).drew cur1 hh1
      have hso : ∀ j, j < n + 1 → ((W.alloc (.cells ROW 114)).drew.cell? ⟨W.heap.size, j, none⟩).isSome = true := fun j hj => by
        simp only [World.cell?, ha]
        rw [Array.getElem?_eq_getElem (by omega)]
        rfl
      have hso1 : ∀ j, j < n + 1 → (((W.alloc (.cells ROW 114)).drew.setCells W.heap.size i [.pointer p]).drew.cell? ⟨W.heap.size, j, none⟩).isSome = true := fun j hj =>
        isSome_setCells W.heap.size [.pointer p] i _ (fun t ht => hso _ (by have : t < 1 := ht; omega)) j (hso j hj)
      refine ⟨_, _, rfl, row_from hbW hh2 hGn hGm (by omega) (by rw [insAt_len (by omega)]; omega) (fun j hj => ?_), ?_⟩
      · rw [insAt_at (by omega)]
        by_cases h1 : j < i
        · rw [if_pos h1, World.cell?_setCells_out _ _ _ _ _ (fun _ _ => .inl (by show j < i + 1; omega))]
          show ((W.alloc (.cells ROW 114)).drew.setCells W.heap.size i [.pointer p]).cell? _ = _
          rw [World.cell?_setCells_out _ _ _ _ _ (fun _ _ => .inl h1), ← hRt j h1]
          simp only [World.cell?, ha]
          rfl
        · rw [if_neg h1]
          by_cases h2 : j = i
          · rw [if_pos h2, h2, World.cell?_setCells_out _ _ _ _ _ (fun _ _ => .inl (by show i < i + 1; omega))]
            have := World.cell?_setCells_in W.heap.size [Value.pointer p] i (W.alloc (.cells ROW 114)).drew (fun t ht => hso _ (by have : t < 1 := ht; omega)) 0 (by simp)
            simpa using this
          · rw [if_neg h2]
            have := World.cell?_setCells_in W.heap.size (xs.drop i) (i + 1) ((W.alloc (.cells ROW 114)).drew.setCells W.heap.size i [.pointer p]).drew (fun t ht => hso1 _ (by omega)) (j - (i + 1)) (by omega)
            rw [show i + 1 + (j - (i + 1)) = j by omega] at this
            rw [this, ← List.getElem?_eq_getElem, List.getElem?_drop, show i + (j - (i + 1)) = j - 1 by omega]
      · have hal : W.grownBy (W.alloc (.cells ROW 114)).drew (some g) := grown_of_below (((Below.refl W.heap.size W).alloc (Nat.le_refl _) (.cells ROW 114)).drew)
        have h1 := grown_after hal (grown_setCells W.heap.size [.pointer p] i _) (.inr ⟨_, rfl, Nat.le_refl _⟩)
        have h2 : ((W.alloc (.cells ROW 114)).drew.setCells W.heap.size i [.pointer p]).grownBy ((W.alloc (.cells ROW 114)).drew.setCells W.heap.size i [.pointer p]).drew (some W.heap.size) := ⟨rfl, rfl, rfl, Nat.le_refl _, fun _ _ _ => rfl⟩
        have h3 := grown_after h2 (grown_setCells W.heap.size (xs.drop i) (i + 1) _) (.inl rfl)
        exact grown_after h1 h3 (.inr ⟨_, rfl, Nat.le_refl _⟩)
end Go.Proofs.YtpmnpnlfgfleeaaGreatDoor
