/- Ways and Reach: plain notions and law. -/
import Derived.Test.YtpmnpnlfgfleeaaGreatDoorMgFitsPlain
namespace Lx
theorem leanF_far {x : Lexicon} {s : ByteArray} (hg : good Clitic.ok Clitic.same x.clitics = true) : ∀ (fuel : Nat) (m : Match) (first : Nat), m.clitics.length + fuel ≤ 3 → m.long ≤ 12 + 4 * m.clitics.length → ∀ m' ∈ leanF x s fuel m first, m'.long ≤ 24
  | 0, m, first, hf, hl, m', h => by simp [leanF] at h; subst h; omega
  | fuel + 1, m, first, hf, hl, m', h => by
    unfold leanF at h
    rw [List.mem_cons] at h
    rcases h with rfl | h
    · omega
    · split at h
      · simp at h
      · rw [List.mem_flatMap] at h
        obtain ⟨c, _, h⟩ := h
        split at h
        · rename_i g hgc
          split at h
          · have := (ok_clitic (good_at hg hgc)).2.1
            exact leanF_far hg fuel ⟨m.entry, m.ending, m.clitics ++ [(c : Int)], m.long + g.text.size⟩ (c + 1) (by simp; omega) (by simp; omega) m' h
          · simp at h
        · simp at h
theorem stemV_size {x : Lexicon} {f : Form} (h : checkV x = 0) : (stemV x f).size ≤ 12 := by
  obtain ⟨_, h1, h2, _⟩ := check_parts h
  unfold stemV
  split
  · decide
  · rename_i e he
    have a := (ok_entry (good_at h1 he)).2.1
    split
    · omega
    · split
      · rename_i g hg
        have b := (ok_ending (good_at h2 hg)).2.1
        rw [ByteArray.size_append]; omega
      · omega
theorem matchesV_far {x : Lexicon} {s : ByteArray} (hc : checkV x = 0) : ∀ m ∈ matchesV x s, m.long ≤ 24 := by
  have h3 := (check_parts hc).2.2.2
  intro m hm
  unfold matchesV matchesN at hm
  rw [List.mem_flatMap] at hm
  obtain ⟨i, hi, hm⟩ := hm
  unfold matchesE at hm
  split at hm
  · split at hm
    · unfold matchesTo at hm
      rw [List.mem_flatMap] at hm
      obtain ⟨q, hq, hm⟩ := hm
      unfold matchesQ at hm
      split at hm
      · simp at hm
      · split at hm
        · exact leanF_far h3 3 ⟨(i : Int), (q : Int) - 1, [], (stemV x ⟨(i : Int), (q : Int) - 1, []⟩).size⟩ 0 (by simp) (by have := stemV_size (f := ⟨(i : Int), (q : Int) - 1, []⟩) hc; simpa using this) m hm
        · simp at hm
    · simp at hm
  · simp at hm

/-- sums that stop at a bound -/
def cnt : Nat := 1099511627776
def addTo (a b : Nat) : Nat := min (a + b) cnt
theorem foldl_addTo : ∀ (l : List Nat) (a : Nat), a ≤ cnt → l.foldl addTo a = min (a + l.sum) cnt
  | [], a, h => by simp [Nat.min_eq_left h]
  | b :: r, a, h => by
    rw [List.foldl_cons, foldl_addTo r (addTo a b) (Nat.min_le_right _ _), List.sum_cons]
    unfold addTo
    omega
/-- how many ways from each place on, k places done -/
def wayT (ats : Nat → List Match) (n : Nat) : Nat → Nat → Nat
  | 0 => fun j => if j = n then 1 else 0
  | k + 1 => fun j => if j = n - (k + 1) then ((ats (n - (k + 1))).map fun m => wayT ats n k (n - (k + 1) + m.long)).foldl addTo 0 else wayT ats n k j
def nxt (n at_ : Nat) : List Nat := List.range' (at_ + 1) (min (n - at_) 24)
def rwayT (c : Nat → Nat → Nat) (n : Nat) : Nat → Nat → Nat
  | 0 => fun j => if j = n then 1 else 0
  | k + 1 => fun j => if j = n - (k + 1) then (nxt n (n - (k + 1))).foldl (fun a toq => (List.replicate (c (n - (k + 1)) toq) (rwayT c n k toq)).foldl addTo a) 0 else rwayT c n k j
theorem foldl_parts {α : Type} (f : α → List Nat) : ∀ (l : List α) (a : Nat), a ≤ cnt → l.foldl (fun a t => (f t).foldl addTo a) a = min (a + (l.map fun t => (f t).sum).sum) cnt
  | [], a, h => by simp [Nat.min_eq_left h]
  | t :: r, a, h => by
    rw [List.foldl_cons, foldl_addTo _ _ h, foldl_parts f r _ (Nat.min_le_right _ _), List.map_cons, List.sum_cons]
    omega
theorem sum_replicate' (k v : Nat) : (List.replicate k v).sum = k * v := by
  induction k with
  | zero => simp
  | succ k ih => rw [List.replicate_succ, List.sum_cons, ih, Nat.succ_mul]; omega
/-- summed place by place -/
theorem sum_places (f : Nat → Nat) (b L : Nat) : ∀ ms : List Match, (∀ m ∈ ms, 1 ≤ m.long ∧ m.long ≤ L) →
    (ms.map fun m => f (b + m.long)).sum = ((List.range' (b + 1) L).map fun t => (withK ms (t - b)).length * f t).sum
  | [], _ => by
    have : ((List.range' (b + 1) L).map fun t => (withK [] (t - b)).length * f t) = (List.range' (b + 1) L).map fun _ => 0 := by
      refine List.map_congr_left fun t _ => ?_
      simp [withK]
    rw [this]
    generalize List.range' (b + 1) L = l
    induction l with
    | nil => rfl
    | cons a r ih => simpa using ih
  | m :: r, h => by
    have hm := h m (by simp)
    rw [List.map_cons, List.sum_cons, sum_places f b L r (fun m' hm' => h m' (by simp [hm']))]
    have key : ∀ l : List Nat, l.Nodup → (l.map fun t => (withK (m :: r) (t - b)).length * f t).sum = (if m.long + b ∈ l ∧ True then f (b + m.long) else 0) + (l.map fun t => (withK r (t - b)).length * f t).sum ∨ ∃ t ∈ l, t ≤ b := by
      intro l hl
      induction l with
      | nil => left; simp
      | cons t l ih =>
        rcases Nat.lt_or_ge b t with hbt | hbt
        · rcases ih (List.nodup_cons.1 hl).2 with ih | ⟨u, hu, hub⟩
          · left
            rw [List.map_cons, List.map_cons, List.sum_cons, List.sum_cons, ih, withK_cons]
            by_cases he : m.long = t - b
            · have e1 : m.long + b = t := by omega
              have e2 : b + m.long = t := by omega
              have hn : t ∉ l := (List.nodup_cons.1 hl).1
              rw [if_pos he, e1, e2, if_neg (by simp [hn]), if_pos (by simp), List.length_append, List.length_singleton, Nat.add_mul]
              omega
            · have e1 : ¬ m.long + b = t := by omega
              rw [if_neg he]
              by_cases hin : m.long + b ∈ l
              · rw [if_pos (by simp [hin]), if_pos (by simp [hin]), List.nil_append]; omega
              · rw [if_neg (by simp [hin]), if_neg (by simp [hin, e1]), List.nil_append]; omega
          · exact .inr ⟨u, by simp [hu], hub⟩
        · exact .inr ⟨t, by simp, hbt⟩
    rcases key (List.range' (b + 1) L) (List.nodup_range' ) with e | ⟨t, ht, htb⟩
    · rw [e, if_pos]
      rw [List.mem_range'_1]
      exact ⟨by omega, trivial⟩
    · rw [List.mem_range'_1] at ht
      omega
theorem way_law {ats : Nat → List Match} {c : Nat → Nat → Nat} {n : Nat} (hat : ∀ i, i < n → ∀ m ∈ ats i, 1 ≤ m.long ∧ m.long ≤ n - i ∧ m.long ≤ 24) (hc : ∀ i t, i < t → t ≤ n → c i t = (withK (ats i) (t - i)).length) :
    ∀ k, k ≤ n → ∀ j, wayT ats n k j = rwayT c n k j := by
  intro k
  induction k with
  | zero => intro _ j; rfl
  | succ k ih =>
    intro hk j
    unfold wayT rwayT
    by_cases hj : j = n - (k + 1)
    · have hi : n - (k + 1) < n := by omega
      simp only [if_pos hj]
      rw [foldl_addTo _ _ (by simp [cnt]), foldl_parts (fun toq => List.replicate (c (n - (k + 1)) toq) (rwayT c n k toq)) _ _ (by simp [cnt])]
      congr 2
      have e : wayT ats n k = rwayT c n k := funext fun j => ih (by omega) j
      rw [e, sum_places (rwayT c n k) (n - (k + 1)) (min (n - (n - (k + 1))) 24) _ (fun m hm => by have := hat _ hi m hm; omega)]
      congr 1
      unfold nxt
      refine List.map_congr_left fun t ht => ?_
      rw [List.mem_range'_1] at ht
      rw [sum_replicate', hc _ _ (by omega) (by omega)]
    · simp only [if_neg hj]
      exact ih (by omega) j
/-- which places are reached, i places done -/
def reachT (ats : Nat → List Match) : Nat → Nat → Bool
  | 0 => fun j => decide (j = 0)
  | i + 1 => fun j => reachT ats i j || (reachT ats i i && (ats i).any fun m => decide (i + m.long = j))
def rreachT (c : Nat → Nat → Nat) (n : Nat) : Nat → Nat → Bool
  | 0 => fun j => decide (j = 0)
  | i + 1 => fun j => rreachT c n i j || (rreachT c n i i && (nxt n i).any fun t => decide (0 < c i t) && decide (t = j))
theorem reach_law {ats : Nat → List Match} {c : Nat → Nat → Nat} {n : Nat} (hat : ∀ i, i < n → ∀ m ∈ ats i, 1 ≤ m.long ∧ m.long ≤ n - i ∧ m.long ≤ 24) (hc : ∀ i t, i < t → t ≤ n → c i t = (withK (ats i) (t - i)).length) :
    ∀ k, k ≤ n → ∀ j, reachT ats k j = rreachT c n k j := by
  intro k
  induction k with
  | zero => intro _ j; rfl
  | succ k ih =>
    intro hk j
    unfold reachT rreachT
    rw [ih (by omega) j, ih (by omega) k]
    congr 2
    rw [Bool.eq_iff_iff]
    simp only [List.any_eq_true, Bool.and_eq_true, decide_eq_true_eq, nxt, List.mem_range'_1]
    constructor
    · rintro ⟨m, hm, rfl⟩
      have h := hat k (by omega) m hm
      refine ⟨k + m.long, by omega, ?_, rfl⟩
      rw [hc _ _ (by omega) (by omega), Nat.add_sub_cancel_left]
      unfold withK
      rw [List.length_map, List.length_pos_iff_exists_mem]
      exact ⟨m, by simp [hm]⟩
    · rintro ⟨t, ht, h0, rfl⟩
      rw [hc _ _ (by omega) (by omega)] at h0
      unfold withK at h0
      rw [List.length_map, List.length_pos_iff_exists_mem] at h0
      obtain ⟨m, hm⟩ := h0
      rw [List.mem_filter] at hm
      exact ⟨m, hm.1, by have := of_decide_eq_true hm.2; omega⟩
end Lx
namespace Lx
def upd (T : Nat → Nat) (i v : Nat) : Nat → Nat := fun j => if j = i then v else T j
theorem upd_at (T : Nat → Nat) (i v : Nat) : upd T i v i = v := by simp [upd]
theorem upd_ne (T : Nat → Nat) {i j : Nat} (v : Nat) (h : j ≠ i) : upd T i v j = T j := by simp [upd, h]
theorem foldl_addTo_le : ∀ (l : List Nat) (a : Nat), a ≤ cnt → l.foldl addTo a ≤ cnt := fun l a h => by
  rw [foldl_addTo l a h]
  exact Nat.min_le_right _ _
theorem wayT_low {ats : Nat → List Match} {n : Nat} : ∀ k, k ≤ n → ∀ j, j < n - k → wayT ats n k j = 0
  | 0, _, j, h => by unfold wayT; rw [if_neg (by omega)]
  | k + 1, hk, j, h => by unfold wayT; rw [if_neg (by omega)]; exact wayT_low k (by omega) j (by omega)
theorem wayT_le {ats : Nat → List Match} {n : Nat} : ∀ k j, wayT ats n k j ≤ cnt
  | 0, j => by unfold wayT; split <;> simp [cnt]
  | k + 1, j => by
    unfold wayT
    split
    · exact foldl_addTo_le _ _ (by simp)
    · exact wayT_le k j
/-- the ways from i on, over the first a matches -/
def waysTo (ats : Nat → List Match) (n k a : Nat) : Nat := (((ats (n - (k + 1))).take a).map fun m => wayT ats n k (n - (k + 1) + m.long)).foldl addTo 0
theorem waysTo_zero (ats : Nat → List Match) (n k : Nat) : waysTo ats n k 0 = 0 := rfl
theorem waysTo_succ {ats : Nat → List Match} {n k a : Nat} {m : Match} (h : (ats (n - (k + 1)))[a]? = some m) : waysTo ats n k (a + 1) = addTo (waysTo ats n k a) (wayT ats n k (n - (k + 1) + m.long)) := by
  obtain ⟨hb, rfl⟩ := List.getElem?_eq_some_iff.1 h
  unfold waysTo
  rw [List.take_succ_eq_append_getElem hb, List.map_append, List.foldl_append]
  rfl
theorem waysTo_le (ats : Nat → List Match) (n k a : Nat) : waysTo ats n k a ≤ cnt := foldl_addTo_le _ _ (by simp)
theorem wayT_start {ats : Nat → List Match} {n k : Nat} (hk : k + 1 ≤ n) : upd (wayT ats n k) (n - (k + 1)) (waysTo ats n k 0) = wayT ats n k := by
  funext j
  unfold upd
  split
  · rename_i h
    rw [h, wayT_low k (by omega) _ (by omega)]
    rfl
  · rfl
theorem wayT_end {ats : Nat → List Match} {n k a : Nat} (h : (ats (n - (k + 1))).length ≤ a) : upd (wayT ats n k) (n - (k + 1)) (waysTo ats n k a) = wayT ats n (k + 1) := by
  funext j
  unfold upd waysTo
  rw [List.take_of_length_le h]
  show _ = if j = n - (k + 1) then _ else _
  rfl
theorem upd_upd (T : Nat → Nat) (i v u : Nat) : upd (upd T i v) i u = upd T i u := by
  funext j
  unfold upd
  split <;> rfl
/-- likewise for the reference -/
theorem rwayT_low {c : Nat → Nat → Nat} {n : Nat} : ∀ k, k ≤ n → ∀ j, j < n - k → rwayT c n k j = 0
  | 0, _, j, h => by unfold rwayT; rw [if_neg (by omega)]
  | k + 1, hk, j, h => by unfold rwayT; rw [if_neg (by omega)]; exact rwayT_low k (by omega) j (by omega)
theorem foldl_parts_le {α : Type} (f : α → List Nat) : ∀ (l : List α) (a : Nat), a ≤ cnt → l.foldl (fun a t => (f t).foldl addTo a) a ≤ cnt := fun l a h => by
  rw [foldl_parts f l a h]
  exact Nat.min_le_right _ _
theorem rwayT_le {c : Nat → Nat → Nat} {n : Nat} : ∀ k j, rwayT c n k j ≤ cnt
  | 0, j => by unfold rwayT; split <;> simp [cnt]
  | k + 1, j => by
    unfold rwayT
    split
    · exact foldl_parts_le (fun toq => List.replicate (c (n - (k + 1)) toq) (rwayT c n k toq)) _ _ (by simp)
    · exact rwayT_le k j
def rwaysTo (c : Nat → Nat → Nat) (n k b : Nat) : Nat := ((nxt n (n - (k + 1))).take b).foldl (fun a toq => (List.replicate (c (n - (k + 1)) toq) (rwayT c n k toq)).foldl addTo a) 0
/-- within one end, q of its forms done -/
def rwaysQ (c : Nat → Nat → Nat) (n k b q : Nat) : Nat := (List.replicate q (rwayT c n k (n - (k + 1) + 1 + b))).foldl addTo (rwaysTo c n k b)
theorem nxt_at {n i b : Nat} (h : b < min (n - i) 24) : (nxt n i)[b]? = some (i + 1 + b) := by
  unfold nxt
  rw [List.getElem?_range' h]
  simp
theorem nxt_len (n i : Nat) : (nxt n i).length = min (n - i) 24 := by simp [nxt]
theorem rwaysTo_le (c : Nat → Nat → Nat) (n k b : Nat) : rwaysTo c n k b ≤ cnt := foldl_parts_le (fun toq => List.replicate (c (n - (k + 1)) toq) (rwayT c n k toq)) _ _ (by simp)
theorem rwaysQ_le (c : Nat → Nat → Nat) (n k b q : Nat) : rwaysQ c n k b q ≤ cnt := foldl_addTo_le _ _ (rwaysTo_le c n k b)
theorem rwaysQ_zero (c : Nat → Nat → Nat) (n k b : Nat) : rwaysQ c n k b 0 = rwaysTo c n k b := rfl
theorem rwaysQ_succ (c : Nat → Nat → Nat) (n k b q : Nat) : rwaysQ c n k b (q + 1) = addTo (rwaysQ c n k b q) (rwayT c n k (n - (k + 1) + 1 + b)) := by
  unfold rwaysQ
  rw [List.replicate_succ', List.foldl_append]
  rfl
theorem rwaysTo_succ {c : Nat → Nat → Nat} {n k b : Nat} (h : b < min (n - (n - (k + 1))) 24) : rwaysTo c n k (b + 1) = rwaysQ c n k b (c (n - (k + 1)) (n - (k + 1) + 1 + b)) := by
  obtain ⟨hb, he⟩ := List.getElem?_eq_some_iff.1 (nxt_at h)
  unfold rwaysTo rwaysQ
  rw [List.take_succ_eq_append_getElem hb, List.foldl_append, he]
  rfl
theorem rwaysTo_none {c : Nat → Nat → Nat} {n k b : Nat} (h : b < min (n - (n - (k + 1))) 24) (h0 : rwayT c n k (n - (k + 1) + 1 + b) = 0) : rwaysTo c n k (b + 1) = rwaysTo c n k b := by
  rw [rwaysTo_succ h]
  unfold rwaysQ
  rw [h0, foldl_addTo _ _ (rwaysTo_le c n k b), sum_replicate', Nat.mul_zero, Nat.add_zero]
  exact Nat.min_eq_left (rwaysTo_le c n k b)
theorem rwayT_start {c : Nat → Nat → Nat} {n k : Nat} (hk : k + 1 ≤ n) : upd (rwayT c n k) (n - (k + 1)) (rwaysTo c n k 0) = rwayT c n k := by
  funext j
  unfold upd
  split
  · rename_i h
    rw [h, rwayT_low k (by omega) _ (by omega)]
    rfl
  · rfl
theorem rwayT_end {c : Nat → Nat → Nat} {n k b : Nat} (h : min (n - (n - (k + 1))) 24 ≤ b) : upd (rwayT c n k) (n - (k + 1)) (rwaysTo c n k b) = rwayT c n (k + 1) := by
  funext j
  unfold upd rwaysTo
  rw [List.take_of_length_le (by rw [nxt_len]; exact h)]
  show _ = if j = n - (k + 1) then _ else _
  rfl
/-- reached: step by step -/
def reachTo (ats : Nat → List Match) (i a : Nat) : Nat → Bool := fun j => reachT ats i j || (reachT ats i i && ((ats i).take a).any fun m => decide (i + m.long = j))
theorem reachTo_zero (ats : Nat → List Match) (i : Nat) : reachTo ats i 0 = reachT ats i := by funext j; simp [reachTo]
theorem reachTo_end {ats : Nat → List Match} {i a : Nat} (h : (ats i).length ≤ a) : reachTo ats i a = reachT ats (i + 1) := by
  funext j
  unfold reachTo
  rw [List.take_of_length_le h]
  rfl
theorem reachTo_self {ats : Nat → List Match} {i a : Nat} (h : ∀ m ∈ ats i, 1 ≤ m.long) : reachTo ats i a i = reachT ats i i := by
  unfold reachTo
  have : ((ats i).take a).any (fun m => decide (i + m.long = i)) = false := by
    rw [List.any_eq_false]
    intro m hm
    have := h m (List.mem_of_mem_take hm)
    simp; omega
  rw [this]; simp
theorem reachTo_succ {ats : Nat → List Match} {i a : Nat} {m : Match} (h : (ats i)[a]? = some m) (j : Nat) : reachTo ats i (a + 1) j = (reachTo ats i a j || (reachT ats i i && decide (i + m.long = j))) := by
  obtain ⟨hb, rfl⟩ := List.getElem?_eq_some_iff.1 h
  unfold reachTo
  rw [List.take_succ_eq_append_getElem hb, List.any_append]
  cases reachT ats i j <;> cases reachT ats i i <;> simp
def rreachTo (c : Nat → Nat → Nat) (n i b : Nat) : Nat → Bool := fun j => rreachT c n i j || (rreachT c n i i && ((nxt n i).take b).any fun t => decide (0 < c i t) && decide (t = j))
theorem rreachTo_zero (c : Nat → Nat → Nat) (n i : Nat) : rreachTo c n i 0 = rreachT c n i := by funext j; simp [rreachTo]
theorem rreachTo_end {c : Nat → Nat → Nat} {n i b : Nat} (h : rreachT c n i i = false ∨ min (n - i) 24 ≤ b) : rreachTo c n i b = rreachT c n (i + 1) := by
  funext j
  show _ = (rreachT c n i j || _)
  unfold rreachTo
  rcases h with h | h
  · rw [h]; simp
  · rw [List.take_of_length_le (by rw [nxt_len]; exact h)]
theorem rreachTo_self (c : Nat → Nat → Nat) (n i b : Nat) : rreachTo c n i b i = rreachT c n i i := by
  unfold rreachTo
  have : ((nxt n i).take b).any (fun t => decide (0 < c i t) && decide (t = i)) = false := by
    rw [List.any_eq_false]
    intro t ht
    have := List.mem_of_mem_take ht
    unfold nxt at this
    rw [List.mem_range'_1] at this
    simp; omega
  rw [this]; simp
theorem rreachTo_succ {c : Nat → Nat → Nat} {n i b : Nat} (h : b < min (n - i) 24) (j : Nat) : rreachTo c n i (b + 1) j = (rreachTo c n i b j || (rreachT c n i i && (decide (0 < c i (i + 1 + b)) && decide (i + 1 + b = j)))) := by
  obtain ⟨hb, he⟩ := List.getElem?_eq_some_iff.1 (nxt_at h)
  unfold rreachTo
  rw [List.take_succ_eq_append_getElem hb, List.any_append, he]
  cases rreachT c n i j <;> cases rreachT c n i i <;> simp
theorem reachT_zero (ats : Nat → List Match) : ∀ i, reachT ats i 0 = true
  | 0 => rfl
  | i + 1 => by unfold reachT; rw [reachT_zero ats i]; rfl
/-- the greatest place that is reached -/
def farT (T : Nat → Bool) : Nat → Nat
  | 0 => 0
  | n + 1 => if T (n + 1) then n + 1 else farT T n
theorem farT_le (T : Nat → Bool) : ∀ n, farT T n ≤ n
  | 0 => Nat.le_refl _
  | n + 1 => by unfold farT; split; · exact Nat.le_refl _
                · have := farT_le T n; omega
theorem farT_at {T : Nat → Bool} : ∀ {n p : Nat}, p ≤ n → T p = true → (∀ j, p < j → j ≤ n → T j = false) → farT T n = p
  | 0, p, hp, _, _ => by unfold farT; omega
  | n + 1, p, hp, h, hn => by
    unfold farT
    rcases Nat.lt_or_ge n p with q | q
    · have e : p = n + 1 := by omega
      rw [← e, h]; rfl
    · rw [hn (n + 1) (by omega) (Nat.le_refl _)]
      simp only [Bool.false_eq_true, if_false]
      exact farT_at q h fun j h1 h2 => hn j h1 (by omega)
theorem farT_set {T : Nat → Bool} {t : Nat} : ∀ {n : Nat}, t ≤ n → farT (fun j => T j || decide (t = j)) n = max (farT T n) t
  | 0, ht => by unfold farT; omega
  | n + 1, ht => by
    unfold farT
    by_cases h : t = n + 1
    · subst h
      simp only [decide_true, Bool.or_true, if_true]
      split
      · simp
      · have := farT_le T n; omega
    · simp only [h, decide_false, Bool.or_false]
      split
      · omega
      · exact farT_set (by omega)
end Lx
