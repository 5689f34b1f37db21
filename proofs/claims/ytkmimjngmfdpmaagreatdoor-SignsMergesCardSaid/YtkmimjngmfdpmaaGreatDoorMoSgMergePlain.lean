/- ostraconlaw01.alike. Merging two sign lists: plain law. -/
import Derived.Test.YtkmimjngmfdpmaaGreatDoorMoSgGTidy
import Derived.Test.YtkmimjngmfdpmaaGreatDoorMoSgSame
namespace Go.Proofs.YtkmimjngmfdpmaaGreatDoor
open Go Go.RowKit

end Go.Proofs.YtkmimjngmfdpmaaGreatDoor
namespace Sg
open Go
def isC (c : ByteArray) (t : Sign) : Bool := decide (t.code = c)
def hasC (l : List Sign) (c : ByteArray) : Bool := l.any (isC c)
/-- the values under a code -/
def valsAt (l : List Sign) (c : ByteArray) : List Value := match l.find? (isC c) with
  | some t => t.values
  | none => []
def joinS (b : List Sign) (s : Sign) : Sign := ⟨s.code, s.wide, s.high, s.even, s.values ++ valsAt b s.code⟩
/-- the signs of both lists, with the values of both -/
def uniteL (a b : List Sign) : List Sign := a.map (joinS b) ++ b.filter fun t => !hasC a t.code
def oddS (s t : Sign) : Bool := !(decide (t.wide = s.wide) && decide (t.high = s.high) && decide (t.even = s.even))
/-- is there a sign in both whose sizes part -/
def clashB (a b : List Sign) : Bool := a.any fun s => match b.find? (isC s.code) with
  | some t => oddS s t
  | none => false
def mergedL (a b : SList) : SList := ⟨max a.periods b.periods, (uniteL a.signs b.signs).map tidyS⟩
def manyL (l : List Sign) : Bool := decide (200 < l.length) || l.any fun s => decide (12 < s.values.length)
def mergeE (a b : SList) : Int := if checkV a ≠ 0 then checkV a else if checkV b ≠ 0 then checkV b else if clashB a.signs b.signs = true then 11 else if manyL (mergedL a b).signs = true then 2 else 0
def mergeL (a b : SList) : SList := if mergeE a b = 0 then mergedL a b else noL
/-- no code comes twice -/
def Uniq (l : List Sign) : Prop := ∀ (i j : Nat) (s t : Sign), l[i]? = some s → l[j]? = some t → s.code = t.code → i = j
theorem uniq_of {l : SList} (h : checkV l = 0) : Uniq l.signs := by
  have key : ∀ (i j : Nat) (s t : Sign), i < j → l.signs[i]? = some s → l.signs[j]? = some t → s.code ≠ t.code := by
    intro i j s t hij hs ht e
    have h2 := (sign_parts ((check_sign h).2.2 j t ht)).2.1
    rw [List.any_eq_false] at h2
    exact h2 s (List.mem_of_getElem? (i := i) (by rw [List.getElem?_take_of_lt hij]; exact hs)) (by simp [e])
  intro i j s t hs ht e
  rcases Nat.lt_trichotomy i j with q | q | q
  · exact absurd e (key i j s t q hs ht)
  · exact q
  · exact absurd e.symm (key j i t s q ht hs)
theorem uniq_mem {l : List Sign} (h : Uniq l) {s t : Sign} (hs : s ∈ l) (ht : t ∈ l) (e : s.code = t.code) : s = t := by
  obtain ⟨i, hi⟩ := List.getElem?_of_mem hs
  obtain ⟨j, hj⟩ := List.getElem?_of_mem ht
  have := h i j s t hi hj e
  subst this
  rw [hi] at hj
  exact Option.some.inj hj
theorem uniq_take {l : List Sign} (h : Uniq l) (k : Nat) : Uniq (l.take k) := by
  intro i j s t hs ht e
  rw [List.getElem?_take] at hs ht
  split at hs
  · split at ht
    · exact h i j s t hs ht e
    · cases ht
  · cases hs
theorem find_uniq {l : List Sign} (h : Uniq l) {t : Sign} (ht : t ∈ l) {c : ByteArray} (hc : t.code = c) : l.find? (isC c) = some t := by
  cases hf : l.find? (isC c) with
  | none =>
    rw [List.find?_eq_none] at hf
    exact absurd (show isC c t = true by simp [isC, hc]) (hf t ht)
  | some s =>
    have h1 := List.mem_of_find?_eq_some hf
    have h2 := List.find?_some hf
    have h3 : s.code = c := by simpa [isC] using h2
    rw [uniq_mem h h1 ht (h3.trans hc.symm)]
theorem find_not {l : List Sign} {c : ByteArray} (h : hasC l c = false) : l.find? (isC c) = none := by
  unfold hasC at h
  rw [List.find?_eq_none]
  rw [List.any_eq_false] at h
  intro t ht
  simpa using h t ht
theorem vals_not {l : List Sign} {c : ByteArray} (h : hasC l c = false) : valsAt l c = [] := by unfold valsAt; rw [find_not h]
theorem vals_one {l : List Sign} (h : Uniq l) {t : Sign} (ht : t ∈ l) : valsAt l t.code = t.values := by unfold valsAt; rw [find_uniq h ht rfl]
theorem has_mem {l : List Sign} {c : ByteArray} : hasC l c = true ↔ ∃ t ∈ l, t.code = c := by
  unfold hasC
  rw [List.any_eq_true]
  simp [isC]
/-- a sign of b goes in: a has none with its code -/
theorem unite_new {a b : List Sign} {k : Nat} {s : Sign} (hs : b[k]? = some s) (hn : hasC a s.code = false) : uniteL a (b.take (k + 1)) = uniteL a (b.take k) ++ [s] := by
  have e : b.take (k + 1) = b.take k ++ [s] := by rw [List.take_add_one, hs]; rfl
  unfold uniteL
  rw [e, List.filter_append, ← List.append_assoc]
  congr 1
  · congr 1
    refine List.map_congr_left fun t ht => ?_
    unfold joinS
    congr 2
    unfold valsAt
    rw [List.find?_append]
    have h0 : List.find? (isC t.code) [s] = none := by
      rw [List.find?_eq_none]
      intro x hx
      rw [List.mem_singleton] at hx
      subst hx
      intro hc
      have : x.code = t.code := by simpa [isC] using hc
      have h1 := has_mem.2 ⟨t, ht, this.symm⟩
      rw [hn] at h1
      cases h1
    rw [h0, Option.or_none]
  · simp [hn]
/-- a sign of b goes in: the values go toq the sign of a with its code -/
theorem unite_old {a b : List Sign} (ha : Uniq a) (hb : Uniq b) {k i : Nat} {s t : Sign} (hs : b[k]? = some s) (ht : a[i]? = some t) (hc : t.code = s.code) :
    (uniteL a (b.take (k + 1))).length = (uniteL a (b.take k)).length ∧ (uniteL a (b.take k))[i]? = some t ∧ (uniteL a (b.take (k + 1)))[i]? = some ⟨t.code, t.wide, t.high, t.even, t.values ++ s.values⟩ ∧
      ∀ j, j ≠ i → (uniteL a (b.take (k + 1)))[j]? = (uniteL a (b.take k))[j]? := by
  have e : b.take (k + 1) = b.take k ++ [s] := by rw [List.take_add_one, hs]; rfl
  have hh : hasC a s.code = true := has_mem.2 ⟨t, List.mem_of_getElem? ht, hc⟩
  have hno : hasC (b.take k) s.code = false := by
    rw [Bool.eq_false_iff]
    intro q
    obtain ⟨u, hu, huc⟩ := has_mem.1 q
    obtain ⟨j, hj⟩ := List.getElem?_of_mem hu
    rw [List.getElem?_take] at hj
    split at hj
    · have := hb j k u s hj hs huc
      omega
    · cases hj
  have hf : (b.take (k + 1)).filter (fun t => !hasC a t.code) = (b.take k).filter fun t => !hasC a t.code := by
    rw [e, List.filter_append]
    simp [hh]
  have hil := (List.getElem?_eq_some_iff.1 ht).1
  have hvs : valsAt (b.take (k + 1)) t.code = s.values := by
    rw [hc]
    exact vals_one (uniq_take hb _) (by rw [e]; simp)
  have hvo : ∀ u ∈ a, u.code ≠ s.code → valsAt (b.take (k + 1)) u.code = valsAt (b.take k) u.code := by
    intro u hu hne
    unfold valsAt
    rw [e, List.find?_append]
    have h0 : List.find? (isC u.code) [s] = none := by
      rw [List.find?_eq_none]
      intro x hx
      rw [List.mem_singleton] at hx
      subst hx
      simpa [isC] using fun q : x.code = u.code => hne q.symm
    rw [h0, Option.or_none]
  unfold uniteL
  rw [hf]
  refine ⟨by simp, ?_, ?_, fun j hj => ?_⟩
  · rw [List.getElem?_append_left (by simpa using hil), List.getElem?_map, ht]
    simp only [Option.map_some, joinS]
    rw [hc, vals_not hno, List.append_nil, ← hc]
  · rw [List.getElem?_append_left (by simpa using hil), List.getElem?_map, ht]
    simp only [Option.map_some, joinS]
    rw [hvs]
  · by_cases hja : j < a.length
    · rw [List.getElem?_append_left (by simpa using hja), List.getElem?_append_left (by simpa using hja), List.getElem?_map, List.getElem?_map]
      obtain ⟨u, hu⟩ : ∃ u, a[j]? = some u := ⟨_, List.getElem?_eq_getElem hja⟩
      rw [hu]
      simp only [Option.map_some, joinS]
      rw [hvo u (List.mem_of_getElem? hu) fun q => hj (ha j i u t hu ht (q.trans hc.symm))]
    · rw [List.getElem?_append_right (by simpa using Nat.not_lt.1 hja), List.getElem?_append_right (by simpa using Nat.not_lt.1 hja)]
      simp
theorem unite_nil (a : List Sign) : uniteL a [] = a := by
  unfold uniteL
  simp only [List.filter_nil, List.append_nil]
  have : joinS [] = id := by
    funext s
    simp [joinS, valsAt]
  rw [this, List.map_id]
/-- the program's look at the sizes, from the other list -/
theorem clash_of {a b : List Sign} (hb : Uniq b) {s t : Sign} (hs : s ∈ b) (ht : t ∈ a) (hc : t.code = s.code) (ho : oddS t s = true) : clashB a b = true := by
  unfold clashB
  rw [List.any_eq_true]
  refine ⟨t, ht, ?_⟩
  rw [find_uniq hb hs hc.symm]
  exact ho
theorem clash_not {a b : List Sign} (h : ∀ s ∈ b, ∀ t ∈ a, t.code = s.code → oddS t s = false) : clashB a b = false := by
  unfold clashB
  rw [List.any_eq_false]
  intro t ht hc
  cases hf : b.find? (isC t.code) with
  | none => rw [hf] at hc; cases hc
  | some s =>
    rw [hf] at hc
    have h1 := List.mem_of_find?_eq_some hf
    have h2 := List.find?_some hf
    have h3 : s.code = t.code := by simpa [isC] using h2
    simp only at hc
    rw [h s h1 t ht h3.symm] at hc
    cases hc
/-- a merged list fails by its size alone -/
theorem tidied_fine {pp : Int} {L : List Value} (h : ∀ v ∈ L, (1 ≤ v.kind ∧ v.kind ≤ 3 ∧ textB v.kind v.text = true) ∧ (1 ≤ v.lo ∧ v.lo ≤ v.hi ∧ v.hi ≤ pp)) : valuesV pp (tidiedV L) = 0 := by
  obtain ⟨h1, h2⟩ := tidied_canon L
  refine firstE_zero fun j hj => ?_
  obtain ⟨v, hv⟩ : ∃ v, (tidiedV L)[j]? = some v := ⟨_, List.getElem?_eq_getElem hj⟩
  rw [valueAt, hv]
  simp only
  have hm := List.mem_of_getElem? hv
  have hlh := h1.1 v hm
  obtain ⟨x, hx, a1, a2, a3, a4⟩ := (h2 v.kind v.text v.lo).1 ⟨v, hm, rfl, rfl, Int.le_refl _, hlh⟩
  obtain ⟨y, hy, b1, b2, b3, b4⟩ := (h2 v.kind v.text v.hi).1 ⟨v, hm, rfl, rfl, hlh, Int.le_refl _⟩
  obtain ⟨⟨x1, x2, x3⟩, x4, x5, x6⟩ := h x hx
  obtain ⟨⟨y1, y2, y3⟩, y4, y5, y6⟩ := h y hy
  have ht : textB v.kind v.text = true := by rw [← a1, ← a2]; exact x3
  unfold valueV
  rw [if_neg (by rw [ht]; simp; omega), if_neg (by omega), if_neg]
  rw [List.any_eq_true]
  rintro ⟨u, hu, hme⟩
  obtain ⟨i, hi⟩ := List.getElem?_of_mem hu
  rw [List.getElem?_take] at hi
  split at hi
  · rename_i hij
    have hp := List.pairwise_iff_getElem.1 h1.2 i j (List.getElem?_eq_some_iff.1 hi).1 hj hij
    rw [(List.getElem?_eq_some_iff.1 hi).2, (List.getElem?_eq_some_iff.1 hv).2] at hp
    unfold meetB at hme
    simp only [Bool.and_eq_true, decide_eq_true_eq] at hme
    rcases hp with q | ⟨q, q'⟩
    · exact nlt_irr q ⟨hme.1.1.1.symm, hme.1.1.2.symm⟩
    · omega
  · cases hi
theorem vals_mem {l : List Sign} {c : ByteArray} {v : Value} (h : v ∈ valsAt l c) : ∃ t ∈ l, v ∈ t.values := by
  unfold valsAt at h
  cases hf : l.find? (isC c) with
  | none => rw [hf] at h; cases h
  | some t => rw [hf] at h; exact ⟨t, List.mem_of_find?_eq_some hf, h⟩
theorem uniq_unite {a b : List Sign} (ha : Uniq a) (hb : Uniq b) : ∀ (k : Nat), Uniq (uniteL a (b.take k)) := by
  intro k
  induction k with
  | zero => rw [List.take_zero, unite_nil]; exact ha
  | succ k ih =>
    by_cases hk : k < b.length
    · obtain ⟨s, hs⟩ : ∃ s, b[k]? = some s := ⟨_, List.getElem?_eq_getElem hk⟩
      cases hh : hasC a s.code
      · rw [unite_new hs hh]
        have hnew : ∀ (i : Nat) (t : Sign), (uniteL a (b.take k))[i]? = some t → t.code ≠ s.code := by
          intro i t ht e
          have hm := List.mem_of_getElem? ht
          unfold uniteL at hm
          rcases List.mem_append.1 hm with hm | hm
          · obtain ⟨u, hu, rfl⟩ := List.mem_map.1 hm
            have := has_mem.2 ⟨u, hu, e⟩
            rw [hh] at this
            cases this
          · obtain ⟨j, hj⟩ := List.getElem?_of_mem (List.mem_filter.1 hm).1
            rw [List.getElem?_take] at hj
            split at hj
            · have := hb j k t s hj hs e
              omega
            · cases hj
        intro i j x y hx hy e
        rw [List.getElem?_append] at hx hy
        split at hx
        · split at hy
          · exact ih i j x y hx hy e
          · have : y = s := by
              have := List.mem_of_getElem? hy
              simpa using this
            subst this
            exact absurd e (hnew i x hx)
        · have hxs : x = s := by
            have := List.mem_of_getElem? hx
            simpa using this
          subst hxs
          split at hy
          · exact absurd e.symm (hnew j y hy)
          · rename_i h1 h2
            have l1 := (List.getElem?_eq_some_iff.1 hx).1
            have l2 := (List.getElem?_eq_some_iff.1 hy).1
            simp at l1 l2
            omega
      · obtain ⟨t, ht, hc⟩ := has_mem.1 hh
        obtain ⟨i, hi⟩ := List.getElem?_of_mem ht
        obtain ⟨e1, e2, e3, e4⟩ := unite_old ha hb hs hi hc
        have hcode : ∀ (j : Nat) (x : Sign), (uniteL a (b.take (k + 1)))[j]? = some x → ∃ y, (uniteL a (b.take k))[j]? = some y ∧ y.code = x.code := by
          intro j x hx
          by_cases hji : j = i
          · subst hji
            rw [e3] at hx
            cases hx
            exact ⟨t, e2, rfl⟩
          · rw [e4 j hji] at hx
            exact ⟨x, hx, rfl⟩
        intro p q x y hx hy e
        obtain ⟨x', hx', ex⟩ := hcode p x hx
        obtain ⟨y', hy', ey⟩ := hcode q y hy
        exact ih p q x' y' hx' hy' (ex.trans (e.trans ey.symm))
    · rw [List.take_of_length_le (by omega)]
      rw [List.take_of_length_le (by omega)] at ih
      exact ih
theorem uniq_before {l : List Sign} (h : Uniq l) {k : Nat} {s : Sign} (hs : l[k]? = some s) : (l.take k).any (fun t => decide (t.code = s.code)) = false := by
  rw [List.any_eq_false]
  intro t ht hc
  obtain ⟨i, hi⟩ := List.getElem?_of_mem ht
  rw [List.getElem?_take] at hi
  split at hi
  · have := h i k t s hi hs (by simpa using hc)
    omega
  · cases hi
/-- what Check says of a merged list -/
theorem merged_check {a b : SList} (ha : checkV a = 0) (hb : checkV b = 0) : checkV (mergedL a b) = if manyL (mergedL a b).signs = true then 2 else 0 := by
  obtain ⟨a1, a2, a3⟩ := check_sign ha
  obtain ⟨b1, b2, b3⟩ := check_sign hb
  have U := uniq_unite (uniq_of ha) (uniq_of hb) b.signs.length
  rw [List.take_of_length_le (Nat.le_refl _)] at U
  have UM : Uniq (mergedL a b).signs := by
    intro i j s t hs ht e
    unfold mergedL at hs ht
    simp only [List.getElem?_map] at hs ht
    obtain ⟨s', hs', rfl⟩ := Option.map_eq_some_iff.1 hs
    obtain ⟨t', ht', rfl⟩ := Option.map_eq_some_iff.1 ht
    exact U i j s' t' hs' ht' e
  have F : ∀ {l : SList}, checkV l = 0 → l.periods ≤ (mergedL a b).periods → ∀ s ∈ l.signs, codeB s.code = true ∧ ¬ sizeBad s ∧ ∀ v ∈ s.values, (1 ≤ v.kind ∧ v.kind ≤ 3 ∧ textB v.kind v.text = true) ∧ (1 ≤ v.lo ∧ v.lo ≤ v.hi ∧ v.hi ≤ (mergedL a b).periods) := by
    intro l hl hp s hs
    obtain ⟨i, hi⟩ := List.getElem?_of_mem hs
    obtain ⟨c1, -, c3, -, c5⟩ := sign_parts ((check_sign hl).2.2 i s hi)
    refine ⟨c1, c3, fun v hv => ?_⟩
    obtain ⟨k, hk⟩ := List.getElem?_of_mem hv
    obtain ⟨v1, v2, -⟩ := value_at c5 hk
    exact ⟨v1, v2.1, v2.2.1, by omega⟩
  have pa : a.periods ≤ (mergedL a b).periods := by show a.periods ≤ max a.periods b.periods; omega
  have pb : b.periods ≤ (mergedL a b).periods := by show b.periods ≤ max a.periods b.periods; omega
  have pm : (mergedL a b).periods = max a.periods b.periods := rfl
  have SG : ∀ s ∈ (mergedL a b).signs, codeB s.code = true ∧ ¬ sizeBad s ∧ valuesV (mergedL a b).periods s.values = 0 := by
    intro s hs
    unfold mergedL at hs
    simp only [List.mem_map] at hs
    obtain ⟨u, hu, rfl⟩ := hs
    have hm : codeB u.code = true ∧ ¬ sizeBad u ∧ ∀ v ∈ u.values, (1 ≤ v.kind ∧ v.kind ≤ 3 ∧ textB v.kind v.text = true) ∧ (1 ≤ v.lo ∧ v.lo ≤ v.hi ∧ v.hi ≤ (mergedL a b).periods) := by
      unfold uniteL at hu
      rcases List.mem_append.1 hu with hu | hu
      · obtain ⟨x, hx, rfl⟩ := List.mem_map.1 hu
        obtain ⟨f1, f2, f3⟩ := F ha pa x hx
        refine ⟨f1, f2, fun v hv => ?_⟩
        rcases List.mem_append.1 hv with hv | hv
        · exact f3 v hv
        · obtain ⟨t, ht, hvt⟩ := vals_mem hv
          exact (F hb pb t ht).2.2 v hvt
      · exact F hb pb u (List.mem_filter.1 hu).1
    exact ⟨hm.1, hm.2.1, tidied_fine hm.2.2⟩
  have hsg : ∀ (k : Nat) (s : Sign), (mergedL a b).signs[k]? = some s → signAt (mergedL a b) k = if 12 < s.values.length then 2 else 0 := by
    intro k s hs
    obtain ⟨g1, g2, g3⟩ := SG s (List.mem_of_getElem? hs)
    rw [signAt, hs]
    simp only
    unfold signV
    rw [if_neg (by rw [g1, uniq_before UM hs]; simp)]
    unfold bodyV
    rw [if_neg g2, g3]
  unfold checkV
  by_cases hlen : 200 < (mergedL a b).signs.length
  · rw [if_pos hlen, if_pos (by unfold manyL; simp [hlen])]
  · rw [if_neg hlen, if_neg (by omega)]
    cases hm : (mergedL a b).signs.any fun s => decide (12 < s.values.length)
    · have : manyL (mergedL a b).signs = false := by unfold manyL; rw [hm]; simp; omega
      rw [this, if_neg (by simp)]
      refine firstE_zero fun j hj => ?_
      rw [hsg j _ (List.getElem?_eq_getElem hj), if_neg]
      rw [List.any_eq_false] at hm
      simpa using hm _ (List.getElem_mem hj)
    · have : manyL (mergedL a b).signs = true := by unfold manyL; rw [hm]; simp
      rw [this, if_pos rfl]
      refine Decidable.byContradiction fun hne => ?_
      have hall : ∀ j, j < (mergedL a b).signs.length → signAt (mergedL a b) j = 0 := by
        by_cases h0 : firstE (signAt (mergedL a b)) (mergedL a b).signs.length = 0
        · exact firstE_ne h0
        · exfalso
          unfold firstE at h0 hne
          cases hf : (List.range (mergedL a b).signs.length).find? (fun j => !decide (signAt (mergedL a b) j = 0)) with
          | none => rw [hf] at h0; exact h0 rfl
          | some j =>
            rw [hf] at hne
            simp only at hne
            have hj := List.mem_range.1 (List.mem_of_find?_eq_some hf)
            have h1 := List.find?_some hf
            have h2 := hsg j _ (List.getElem?_eq_getElem hj)
            rw [h2] at hne h1
            split at hne
            · exact hne rfl
            · rename_i h3
              rw [if_neg h3] at h1
              simp at h1
      rw [List.any_eq_true] at hm
      obtain ⟨s, hs, h12⟩ := hm
      obtain ⟨j, hj⟩ := List.getElem?_of_mem hs
      have h1 := hall j (List.getElem?_eq_some_iff.1 hj).1
      rw [hsg j s hj, if_pos (by simpa using h12)] at h1
      cases h1
end Sg
