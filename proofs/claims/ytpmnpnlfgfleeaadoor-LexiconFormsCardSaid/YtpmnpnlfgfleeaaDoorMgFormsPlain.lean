/- The lists of clitics with a common beginning, in order; all forms of an entry: plain law. How many forms there are; what Forms and Count hand back: plain law. -/
import Derived.Test.YtpmnpnlfgfleeaaDoorMgPlain
namespace Lx
/-- the lists that go on from b with numbers from 'first' on, of at most k more -/
def listsV (n : Nat) : Nat → List Int → Nat → List (List Int)
  | 0, b, _ => [b]
  | k + 1, b, first => b :: (List.range' first (n - first)).flatMap fun (c : Nat) => listsV n k (b ++ [(c : Int)]) (c + 1)
/-- those up toq (not with) number c -/
def listsTo (n k : Nat) (b : List Int) (first c : Nat) : List (List Int) := b :: (List.range' first (c - first)).flatMap fun (c : Nat) => listsV n k (b ++ [(c : Int)]) (c + 1)
theorem listsTo_start (n k : Nat) (b : List Int) (first : Nat) : listsTo n k b first first = [b] := by simp [listsTo]
theorem listsTo_succ (n k : Nat) (b : List Int) {first c : Nat} (h : first ≤ c) : listsTo n k b first (c + 1) = listsTo n k b first c ++ listsV n k (b ++ [(c : Int)]) (c + 1) := by
  unfold listsTo
  rw [show c + 1 - first = (c - first) + 1 by omega, List.range'_concat, List.flatMap_append]
  simp only [List.flatMap_cons, List.flatMap_nil, List.append_nil, List.cons_append]
  rw [show first + 1 * (c - first) = c by omega]
theorem listsTo_end (n k : Nat) (b : List Int) {first : Nat} : listsTo n k b first (max first n) = listsV n (k + 1) b first := by
  unfold listsTo
  rw [show max first n - first = n - first by omega]
  rfl
/-- each is part of the whole -/
theorem listsTo_prefix (n k : Nat) (b : List Int) {first c : Nat} (hf : first ≤ c) (hc : c ≤ n) : listsTo n k b first c <+: listsV n (k + 1) b first := by
  unfold listsTo
  show _ <+: b :: _
  rw [List.cons_prefix_cons]
  refine ⟨rfl, ?_⟩
  rw [show n - first = (c - first) + (n - c) by omega, ← List.range'_append_1, List.flatMap_append]
  exact List.prefix_append _ _
theorem listsTo_step (n k : Nat) (b : List Int) {first c : Nat} (hf : first ≤ c) (hc : c < n) : listsTo n k b first c ++ listsV n k (b ++ [(c : Int)]) (c + 1) <+: listsV n (k + 1) b first := by
  rw [← listsTo_succ n k b hf]
  exact listsTo_prefix n k b (by omega) hc
theorem listsV_one (n k : Nat) (b : List Int) (first : Nat) : [b] <+: listsV n k b first := by
  cases k with
  | zero => exact List.prefix_refl _
  | succ k => exact ⟨_, rfl⟩
theorem listsV_len (n : Nat) : ∀ (k : Nat) (b : List Int) (first : Nat), ∀ l ∈ listsV n k b first, l.length ≤ b.length + k
  | 0, b, first, l, h => by simp [listsV] at h; subst h; simp
  | k + 1, b, first, l, h => by
    unfold listsV at h
    rw [List.mem_cons, List.mem_flatMap] at h
    rcases h with rfl | ⟨c, _, h⟩
    · omega
    · have := listsV_len n k _ _ l h
      rw [List.length_append, List.length_singleton] at this
      omega
/-- whether an ending does not suit an entry (p = 0: no ending) -/
def skipE (x : Lexicon) (i p : Nat) : Bool := match p with
  | 0 => false
  | q + 1 => match x.endings[q]?, x.entries[i]? with
    | some g, some e => decide (g.kind ≠ e.kind)
    | _, _ => true
def formsQ (x : Lexicon) (i p : Nat) : List Form := if skipE x i p then [] else (listsV x.clitics.length 3 [] 0).map fun l => ⟨(i : Int), (p : Int) - 1, l⟩
/-- those with the first p endings -/
def formsTo (x : Lexicon) (i p : Nat) : List Form := (List.range p).flatMap fun q => formsQ x i q
def formsV (x : Lexicon) (i : Nat) : List Form := formsTo x i (x.endings.length + 1)
theorem formsTo_succ (x : Lexicon) (i p : Nat) : formsTo x i (p + 1) = formsTo x i p ++ formsQ x i p := by
  unfold formsTo
  rw [List.range_succ, List.flatMap_append]
  simp
theorem formsTo_prefix (x : Lexicon) (i : Nat) {p : Nat} (h : p ≤ x.endings.length + 1) : formsTo x i p <+: formsV x i := by
  unfold formsV formsTo
  have e : List.range (x.endings.length + 1) = List.range p ++ List.range' (0 + p) (x.endings.length + 1 - p) := by
    rw [List.range_eq_range', List.range_eq_range', List.range'_append_1]
    congr 1
    omega
  rw [e, List.flatMap_append]
  exact List.prefix_append _ _
end Lx
namespace Lx
theorem listsV_count (n : Nat) : ∀ (k : Nat) (b : List Int) (first : Nat), (listsV n k b first).length ≤ (n + 1) ^ k
  | 0, b, first => by simp [listsV]
  | k + 1, b, first => by
    unfold listsV
    rw [List.length_cons, List.length_flatMap]
    have h : ((List.range' first (n - first)).map fun (c : Nat) => (listsV n k (b ++ [(c : Int)]) (c + 1)).length).sum ≤ (n - first) * (n + 1) ^ k := by
      have key : ∀ (l : List Nat), (l.map fun (c : Nat) => (listsV n k (b ++ [(c : Int)]) (c + 1)).length).sum ≤ l.length * (n + 1) ^ k := by
        intro l
        induction l with
        | nil => simp
        | cons a r ih =>
          rw [List.map_cons, List.sum_cons, List.length_cons, Nat.succ_mul]
          have := listsV_count n k (b ++ [(a : Int)]) (a + 1)
          omega
      have := key (List.range' first (n - first))
      rwa [List.length_range'] at this
    have h2 : (n - first) * (n + 1) ^ k ≤ n * (n + 1) ^ k := Nat.mul_le_mul_right _ (Nat.sub_le _ _)
    have h3 : 1 ≤ (n + 1) ^ k := Nat.one_le_pow _ _ (by omega)
    rw [Nat.pow_succ, Nat.mul_comm ((n + 1) ^ k), Nat.succ_mul]
    omega
theorem formsV_count (x : Lexicon) (i : Nat) (hE : x.endings.length ≤ 50) (hC : x.clitics.length ≤ 15) : (formsV x i).length ≤ 208896 := by
  have hq : ∀ p, (formsQ x i p).length ≤ 4096 := fun p => by
    unfold formsQ
    split
    · simp
    · rw [List.length_map]
      refine Nat.le_trans (listsV_count _ 3 [] 0) ?_
      calc (x.clitics.length + 1) ^ 3 ≤ 16 ^ 3 := Nat.pow_le_pow_left (by omega) 3
        _ = 4096 := by decide
  have key : ∀ p, (formsTo x i p).length ≤ p * 4096 := by
    intro p
    induction p with
    | zero => simp [formsTo]
    | succ p ih =>
      rw [formsTo_succ, List.length_append, Nat.succ_mul]
      have := hq p
      omega
  have := key (x.endings.length + 1)
  unfold formsV
  omega
/-- the error of an entry, behind that of the lexicon -/
def entryV (x : Lexicon) (n : Int) : Int := if checkV x ≠ 0 then checkV x else if withinB n 0 ((x.entries.length : Int) - 1) = true then 0 else 45
def countR (x : Lexicon) (n : Int) : Int := if entryV x n = 0 then ((formsV x n.toNat).length : Int) else 0
def formsN (x : Lexicon) (n : Int) : Int := if entryV x n = 0 then (if 1000 < (formsV x n.toNat).length then 2 else 0) else entryV x n
def formsR (x : Lexicon) (n : Int) : List Form := if formsN x n = 0 then formsV x n.toNat else []
theorem entry_good {x : Lexicon} {n : Int} (h : entryV x n = 0) : checkV x = 0 ∧ ∃ i : Nat, n = (i : Int) ∧ i < x.entries.length := by
  unfold entryV at h
  split at h
  · rename_i q; exact absurd h q
  · rename_i q
    have hc : checkV x = 0 := by simpa using q
    split at h
    · rename_i hw
      simp [withinB] at hw
      exact ⟨hc, n.toNat, by omega, by omega⟩
    · cases h
end Lx
namespace Lx
theorem listsV_in (n : Nat) : ∀ (k : Nat) (b : List Int) (first : Nat), (∀ c ∈ b, 0 ≤ c ∧ c < (n : Int)) → ∀ l ∈ listsV n k b first, ∀ c ∈ l, 0 ≤ c ∧ c < (n : Int)
  | 0, b, first, hb, l, h => by
    simp [listsV] at h
    subst h
    exact hb
  | k + 1, b, first, hb, l, h => by
    unfold listsV at h
    rw [List.mem_cons, List.mem_flatMap] at h
    rcases h with rfl | ⟨c, hc, h⟩
    · exact hb
    · rw [List.mem_range'_1] at hc
      refine listsV_in n k _ _ (fun d hd => ?_) l h
      rw [List.mem_append, List.mem_singleton] at hd
      rcases hd with hd | rfl
      · exact hb d hd
      · omega
/-- what every form of an entry is like -/
theorem formsV_in {x : Lexicon} {i : Nat} {f : Form} (h : f ∈ formsV x i) : f.entry = (i : Int) ∧ -1 ≤ f.ending ∧ f.ending < (x.endings.length : Int) ∧ f.clitics.length ≤ 3 ∧ ∀ c ∈ f.clitics, 0 ≤ c ∧ c < (x.clitics.length : Int) := by
  unfold formsV formsTo at h
  rw [List.mem_flatMap] at h
  obtain ⟨q, hq, h⟩ := h
  rw [List.mem_range] at hq
  unfold formsQ at h
  split at h
  · simp at h
  · rw [List.mem_map] at h
    obtain ⟨l, hl, rfl⟩ := h
    have h1 := listsV_len _ _ _ _ l hl
    have h2 := listsV_in _ _ _ _ (by simp) l hl
    exact ⟨rfl, by show -1 ≤ (q : Int) - 1; omega, by show (q : Int) - 1 < _; omega, by simpa using h1, h2⟩
end Lx
