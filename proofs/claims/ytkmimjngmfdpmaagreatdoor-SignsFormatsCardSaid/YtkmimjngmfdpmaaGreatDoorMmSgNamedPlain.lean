/- strings.Builder's WriteString once more: what lies beside the builder stays. Names of the signs of a valid list: plain law. -/
import Derived.Test.YtkmimjngmfdpmaaGreatDoorMhRDec
import Derived.Test.YtkmimjngmfdpmaaGreatDoorMgSgWorks
import Derived.Test.YtkmimjngmfdpmaaGreatDoorMgBegin
import Derived.Lib.ItoaLen
namespace Go.Proofs.YtkmimjngmfdpmaaGreatDoor
open Go Go.RowKit

/-- blocks of other types than bytes stay, but for the builder's own -/
def Side (b : Nat) (w w' : World) : Prop := w.heap.size ≤ w'.heap.size ∧ ∀ k cs T fr, k ≠ b → T ≠ 5 → w.heap[k]? = some (.cells cs T fr) → w'.heap[k]? = some (.cells cs T fr)
theorem Side.refl (b : Nat) (w : World) : Side b w w := ⟨Nat.le_refl _, fun _ _ _ _ _ _ h => h⟩
theorem Side.trans {b : Nat} {w w' w'' : World} (h : Side b w w') (h' : Side b w' w'') : Side b w w'' := ⟨Nat.le_trans h.1 h'.1, fun k cs T fr hk hT h0 => h'.2 k cs T fr hk hT (h.2 k cs T fr hk hT h0)⟩
theorem Side.of {b : Nat} {w w' : World} (h : Below w.heap.size w w') : Side b w w' := ⟨h.size, fun k _ _ _ _ _ h0 => (h.block k (Array.getElem?_eq_some_iff.1 h0).1).trans h0⟩
theorem isB_below {B b : Nat} {bs : List Value} {w w' : World} (h : Lib.IsBuilder 106 5 B b bs w) (hb : Below w.heap.size w w') : Lib.IsBuilder 106 5 B b bs w' := by
  have key : ∀ p, Lib.BuilderAt 106 5 B b p bs w → Lib.BuilderAt 106 5 B b p bs w' := by
    rintro p ⟨hB, v, hbk, hown, hne⟩
    have hlt : b < w.heap.size := by
      rcases Nat.lt_or_ge b w.heap.size with h' | h'
      · exact h'
      · simp [Array.getElem?_eq_none h'] at hbk
    exact ⟨hB, v, (hb.block b hlt).trans hbk, keep_own hown hb, hne⟩
  exact h.elim (fun h => .inl (key _ h)) (fun h => .inr (key _ h))
theorem Side.set {b : Nat} (w : World) (o : Nat) (u : Value) : Side b w (w.setCell ⟨b, o, none⟩ u) := ⟨by simp [World.setCell], fun k cs T fr hk _ h0 => (Below.heap_setCell _ ⟨b, o, none⟩ _ _ (by exact hk)).trans h0⟩
theorem copyCheck_side (B b : Nat) (bs : List Value) (w : World) (h : Lib.IsBuilder 106 5 B b bs w) :
    Calls Tryz.prog 120 #[.pointer (some ⟨b, 0, none⟩)] w (fun e w' => e = .returned (.tuple #[]) ∧ Lib.BuilderAt 106 5 B b (.pointer (some ⟨b, 0, none⟩)) bs w' ∧ Below B w w' ∧ Side b w w') := by
  rcases h with h | h
  · refine (copyCheck_fresh b w h.cell0 h.shape h.frozen0).mono ?_
    rintro e w' ⟨rfl, rfl⟩
    exact ⟨rfl, h.used _, (Below.refl B w).setCell (p := ⟨b, 0, none⟩) h.1 _, Side.set w 0 _⟩
  · refine (copyCheck_used b w h.cell0).mono ?_
    rintro e w' ⟨rfl, rfl⟩
    exact ⟨rfl, h, Below.refl B _, Side.refl _ _⟩
/-- what WriteString leaves -/
def RetW (B b : Nat) (l : List UInt8) (n : Nat) (w : World) (e : Ending) (w' : World) : Prop := e = .returned (.tuple #[.int .i64 n, .nilIface]) ∧ Lib.IsBuilder 106 5 B b (Lib.byteCells l) w' ∧ Below B w w' ∧ Side b w w'
set_option maxRecDepth 100000 in
set_option maxHeartbeats 2000000 in
theorem gWrite_any (B b : Nat) (l : List UInt8) (s : ByteArray) (w : World) (h : Lib.IsBuilder 106 5 B b (Lib.byteCells l) w) (hlen : l.length + s.size ≤ 10000000) (hBw : B ≤ w.heap.size) :
    Calls Tryz.prog 82 #[.pointer (some ⟨b, 0, none⟩), .string s] w (RetW B b (l ++ s.data.toList) s.size w) := by
  obtain ⟨i0, hi, hz0, hz1, hz2⟩ := info_parts info_u8
  have hbl : (Lib.byteCells l).length = l.length := by simp [Lib.byteCells]
  unfold RetW
  rw [← cells_append]
  go_enter Tryz.func82, Tryz.ntmps82
  go_wp2_with fail
  refine (copyCheck_side B b (Lib.byteCells l) _ h).mono ?_
  rintro e w1 ⟨rfl, h1, hb1, hsd1⟩
  have HSD1 := Lib.hid hsd1
  clear hsd1
  obtain ⟨hB, v, hbk, hown, hne⟩ := h1
  have c0 : w1.cell? ⟨b, 0, none⟩ = some (.pointer (some ⟨b, 0, none⟩)) := by rw [Lib.cell_of_heap hbk]; rfl
  have c1 : w1.cell? ⟨b, 1, none⟩ = some v := by rw [Lib.cell_of_heap hbk]; rfl
  have hs1 := hb1.size
  go_wp2_with (at_builtin; refine Lib.wpList_append_own_string _ rfl _ _ 104 9 rfl B 5 i0 Tryz.underlying104 Tryz.underlying9 hi hz0 hz1 hz2 _ _ _ rfl hown s rfl ?c3 ?c4 ?c5 ?_)
  case c3 => unfold maxLen; omega
  case c4 => omega
  case c5 => omega
  intro v' w2 hown' hgrow _
  have hlt : b < w1.heap.size := by
    rcases Nat.lt_or_ge b w1.heap.size with h' | h'
    · exact h'
    · simp [Array.getElem?_eq_none h'] at hbk
  have hb2 : w2.heap[b]? = some (.cells #[.pointer (some ⟨b, 0, none⟩), v] 106 (0, 0)) := by
    rw [hgrow.block b hlt (fun e => hne e.symm)]
    exact hbk
  have hsd2 : Side b w1 w2 := ⟨hgrow.size, fun k cs T fr _ hT h0 => (hgrow.block k (Array.getElem?_eq_some_iff.1 h0).1 (fun e => by
    rcases hown.2 with ⟨rfl, -⟩ | ⟨g, cap, cur, rfl, -, hh, -⟩
    · cases e
    · have e' : k = g := by simpa [Value.ownBlock] using e
      subst e'
      rw [hh] at h0
      injection h0 with h0
      injection h0 with _ h0
      exact hT h0.symm)).trans h0⟩
  have HSD2 := Lib.hid hsd2
  have d0 : w2.cell? ⟨b, 0, none⟩ = some (.pointer (some ⟨b, 0, none⟩)) := by rw [Lib.cell_of_heap hb2]; rfl
  have d1 : w2.cell? ⟨b, 1, none⟩ = some v := by rw [Lib.cell_of_heap hb2]; rfl
  have f1 : w2.frozen? ⟨b, 1, none⟩ = false := Lib.frozen_of_heap hb2 1
  clear hsd2
  obtain ⟨ao, n', cap, rfl⟩ : ∃ ao n' cap, v' = .slice ao n' cap := by
    rcases hown'.2 with ⟨hv, _⟩ | ⟨g, cap, cur, hv, _⟩
    · exact ⟨_, _, _, hv⟩
    · exact ⟨_, _, _, hv⟩
  go_wp2_with fail
  go_ret2
  refine ⟨rfl, .inr ?_, ?_, (HSD1.out.trans HSD2.out).trans (Side.set w2 1 _)⟩
  · exact Lib.BuilderAt.put (T := 106) (e := 5) hB hb2 (bs' := Lib.byteCells l ++ Lib.strCells s) (by simpa [Lib.strCells_length, Lib.byteCells_length] using hown') (by decide)
  · exact (hb1.grown hgrow (by omega) (fun k hk => (hown.lt k hk).1)).setCell (p := ⟨b, 1, none⟩) hB _
/-- what a Format leaves -/
def RetFmt (l : List UInt8) (n : Int) (w : World) (e : Ending) (w' : World) : Prop := ∃ s : ByteArray, e = .returned (.tuple #[.string s, .int .i64 n]) ∧ s.data.toList = l ∧ Below w.heap.size w w'
/-- one byte as text -/
theorem run_convert_one {w : World} {src dst e : TypeId} {g c : Nat} {x : UInt8} (hs : Tryz.prog.underlying src = some (.slice e)) (he : Tryz.prog.underlying e = some (.int .u8)) (hd : Tryz.prog.underlying dst = some .string) (hc : w.cell? ⟨g, 0, none⟩ = some (.int .u8 x.toNat)) :
    (convert src dst (.slice (some ⟨g, 0, none⟩) 1 c)).run Tryz.prog w = .ok (.string ⟨#[x]⟩) w := by
  rw [run_convert_bytes_string w src dst e _ _ _ hs he hd]
  have h : (loadCells ⟨g, 0, none⟩ 1).run Tryz.prog w = .ok ([(x.toNat : Int)].map (Value.int .u8)).toArray w := by
    simp [go_sem, hc]
  rw [run_bytesToString w _ _ _ [(x.toNat : Int)] h]
  simp
  rfl
end Go.Proofs.YtkmimjngmfdpmaaGreatDoor
namespace Sg
open Go
theorem check_sign {l : SList} (h : checkV l = 0) : (1 ≤ l.periods ∧ l.periods ≤ 9) ∧ l.signs.length ≤ 200 ∧ ∀ (i : Nat) (s : Sign), l.signs[i]? = some s → signV l.periods (l.signs.take i) s = 0 := by
  unfold checkV at h
  split at h
  · cases h
  · split at h
    · cases h
    · refine ⟨by omega, by omega, fun i s hs => ?_⟩
      have := firstE_ne h i (List.getElem?_eq_some_iff.1 hs).1
      rwa [signAt, hs] at this
theorem sign_parts {p : Int} {b : List Sign} {s : Sign} (h : signV p b s = 0) : codeB s.code = true ∧ b.any (fun t => decide (t.code = s.code)) = false ∧ ¬ sizeBad s ∧ s.values.length ≤ 12 ∧ valuesV p s.values = 0 := by
  unfold signV at h
  split at h
  · cases h
  · rename_i h1
    rw [not_or] at h1
    unfold bodyV at h
    split at h
    · cases h
    · split at h
      · cases h
      · exact ⟨by simpa using h1.1, by simpa using h1.2, by assumption, by omega, h⟩
theorem value_at {p : Int} {l : List Value} (h : valuesV p l = 0) {k : Nat} {v : Value} (hv : l[k]? = some v) : (1 ≤ v.kind ∧ v.kind ≤ 3 ∧ textB v.kind v.text = true) ∧ (1 ≤ v.lo ∧ v.lo ≤ v.hi ∧ v.hi ≤ p) ∧ (l.take k).any (meetB v) = false := by
  have h0 := firstE_ne h k (List.getElem?_eq_some_iff.1 hv).1
  rw [valueAt, hv] at h0
  simp only at h0
  unfold valueV at h0
  split at h0
  · cases h0
  · split at h0
    · cases h0
    · split at h0
      · cases h0
      · rename_i a b c
        rw [not_or, not_or] at a b
        exact ⟨⟨by omega, by omega, by simpa using a.2.2⟩, ⟨by omega, by omega, by omega⟩, by simpa using c⟩
/-- two values of a valid sign in use in one period that say the same are one -/
theorem values_apart {p : Int} {l : List Value} (h : valuesV p l = 0) {j k : Nat} {u v : Value} (hjk : j < k) (hu : l[j]? = some u) (hv : l[k]? = some v) {q : Int} (iu : inUseB u q = true) (iv : inUseB v q = true) (hk : u.kind = v.kind) : u.text ≠ v.text := by
  intro ht
  have h3 := (value_at h hv).2.2
  rw [List.any_eq_false] at h3
  refine h3 u (List.mem_of_getElem? (i := j) (by rw [List.getElem?_take_of_lt hjk]; exact hu)) ?_
  unfold inUseB at iu iv
  simp only [Bool.and_eq_true, decide_eq_true_eq] at iu iv
  unfold meetB
  simp only [Bool.and_eq_true, decide_eq_true_eq]
  exact ⟨⟨⟨hk.symm, ht.symm⟩, by omega⟩, by omega⟩
theorem use_mem {s : Sign} {p : Int} {k : Nat} {v : Value} (hv : (useV s p)[k]? = some v) : v ∈ s.values ∧ inUseB v p = true := by
  have h := List.mem_of_getElem? hv
  unfold useV at h
  exact List.mem_filter.1 h
theorem filter_places {α : Type} (f : α → Bool) : ∀ (l : List α) (j k : Nat) (u v : α), j < k → (l.filter f)[j]? = some u → (l.filter f)[k]? = some v → ∃ j' k' : Nat, j' < k' ∧ l[j']? = some u ∧ l[k']? = some v
  | [], _, _, _, _, _, h, _ => by simp at h
  | a :: l, j, k, u, v, hjk, h1, h2 => by
    rw [List.filter_cons] at h1 h2
    by_cases hf : f a = true
    · rw [if_pos hf] at h1 h2
      obtain ⟨k, rfl⟩ : ∃ m, k = m + 1 := ⟨k - 1, by omega⟩
      rw [List.getElem?_cons_succ] at h2
      cases j with
      | zero =>
        rw [List.getElem?_cons_zero] at h1
        have hm : v ∈ l := (List.mem_filter.1 (List.mem_of_getElem? h2)).1
        obtain ⟨m, hm⟩ := List.getElem?_of_mem hm
        exact ⟨0, m + 1, by omega, h1, by simpa using hm⟩
      | succ j =>
        rw [List.getElem?_cons_succ] at h1
        obtain ⟨j', k', h3, h4, h5⟩ := filter_places f l j k u v (by omega) h1 h2
        exact ⟨j' + 1, k' + 1, by omega, by simpa using h4, by simpa using h5⟩
    · rw [if_neg hf] at h1 h2
      obtain ⟨j', k', h3, h4, h5⟩ := filter_places f l j k u v hjk h1 h2
      exact ⟨j' + 1, k' + 1, by omega, by simpa using h4, by simpa using h5⟩
theorem use_apart {pp p : Int} {s : Sign} (h : valuesV pp s.values = 0) {j k : Nat} {u v : Value} (hjk : j < k) (hu : (useV s p)[j]? = some u) (hv : (useV s p)[k]? = some v) (hk : u.kind = v.kind) : u.text ≠ v.text := by
  obtain ⟨j', k', h1, h2, h3⟩ := filter_places _ s.values j k u v hjk hu hv
  exact values_apart h h1 h2 h3 (use_mem hu).2 (use_mem hv).2 hk
theorem mem_bear {l : List Sign} {kind : Int} {t : ByteArray} {p : Int} {i : Nat} {s : Sign} (hs : l[i]? = some s) (hh : hasB s kind t p = true) : (i : Int) ∈ bearV l kind t p := by
  unfold bearV
  rw [List.mem_map]
  refine ⟨i, ?_, rfl⟩
  rw [List.mem_filter, List.mem_range]
  exact ⟨(List.getElem?_eq_some_iff.1 hs).1, by rw [hs]; exact hh⟩
theorem use_has {s : Sign} {p : Int} {k : Nat} {v : Value} (hv : (useV s p)[k]? = some v) : hasB s v.kind v.text p = true := by
  unfold hasB
  rw [List.any_eq_true]
  obtain ⟨h1, h2⟩ := use_mem hv
  exact ⟨v, h1, by simp [h2]⟩
theorem place_mem : ∀ {l : List Int} {x : Int}, x ∈ l → ∃ q : Nat, placeOf l x = (q : Int) ∧ l[q]? = some x
  | [], _, h => by cases h
  | a :: l, x, h => by
    by_cases e : a = x
    · exact ⟨0, by rw [placeOf, if_pos e]; rfl, by simp [e]⟩
    · have h' : x ∈ l := by
        rcases List.mem_cons.1 h with h | h
        · exact absurd h.symm e
        · exact h
      obtain ⟨q, h1, h2⟩ := place_mem h'
      exact ⟨q + 1, by rw [placeOf, if_neg e, h1, if_neg (by omega)]; push_cast; rfl, by simpa using h2⟩
theorem text_nodig {t : ByteArray} (h : textB 1 t = true) : ∀ b ∈ t.data.toList, notDig b = true := by
  unfold textB at h
  rw [Bool.and_eq_true] at h
  intro b hb
  have h1 := List.all_eq_true.1 h.2 b hb
  unfold textC Lx.small upper at h1
  unfold notDig Lx.digB
  simp [UInt8.le_iff_toNat_le] at h1 ⊢
  omega
theorem take_app {p : UInt8 → Bool} : ∀ {a b : List UInt8}, (∀ x ∈ a, p x = true) → (∀ x, b[0]? = some x → p x = false) → (a ++ b).takeWhile p = a ∧ (a ++ b).dropWhile p = b
  | [], b, _, h => by
    cases b with
    | nil => exact ⟨rfl, rfl⟩
    | cons x b => have := h x rfl; simp [this]
  | x :: a, b, h1, h2 => by
    obtain ⟨i1, i2⟩ := take_app (a := a) (b := b) (fun y hy => h1 y (by simp [hy])) h2
    have := h1 x (by simp)
    simp [this, i1, i2]
/-- the digits of a place -/
def sfx (q : Nat) : List UInt8 := if q = 0 then [] else Lib.decDigits (q + 1)
theorem dec_head : ∀ n : Nat, 0 < n → (Lib.decDigits n)[0]? ≠ some 48 := by
  intro n
  induction n using Nat.strongRecOn with
  | ind n ih =>
    intro hn h
    rw [Lib.decDigits] at h
    split at h
    · rw [List.getElem?_cons_zero, Option.some.injEq] at h
      have h1 := congrArg UInt8.toNat h
      rw [UInt8.toNat_ofNat'] at h1
      have : (48 : UInt8).toNat = 48 := rfl
      omega
    · have h2 := ih (n / 10) (by omega) (by omega)
      have hne : Lib.decDigits (n / 10) ≠ [] := fun e => by
        have := (dig_of_dec (n / 10)).2
        rw [e] at this
        have e0 : Lx.digV [] = 0 := rfl
        omega
      cases e : Lib.decDigits (n / 10) with
      | nil => exact hne e
      | cons a r => rw [e] at h h2; exact h2 h
theorem sfx_ok (q : Nat) : numOk (sfx q) = true ∧ numOf (sfx q) = (q : Int) + 1 ∧ ∀ x, (sfx q)[0]? = some x → notDig x = false := by
  unfold sfx
  by_cases h : q = 0
  · subst h
    exact ⟨rfl, rfl, fun x hx => by simp at hx⟩
  · rw [if_neg h]
    obtain ⟨h1, h2⟩ := dig_of_dec (q + 1)
    have h3 := dec_head (q + 1) (by omega)
    have hne : Lib.decDigits (q + 1) ≠ [] := fun e => by
      rw [e] at h2
      have e0 : Lx.digV [] = 0 := rfl
      omega
    refine ⟨?_, ?_, fun x hx => ?_⟩
    · unfold numOk
      rw [h1, decide_eq_false h3, decide_eq_false]
      · rfl
      · intro e
        rw [e] at h2
        have : Lx.digV [49] = 1 := rfl
        omega
    · unfold numOf
      rw [if_neg hne, h2]; push_cast; rfl
    · unfold notDig
      rw [List.all_eq_true.1 h1 x (List.mem_of_getElem? hx)]
      rfl
/-- the name of a sign -/
def nameN (l : SList) (i : Nat) (t : ByteArray) (p : Int) : ByteArray := (nameV l i t p).1
theorem name_shape {l : SList} {i : Nat} {s : Sign} {p : Int} (hc : checkV l = 0) (hp : ¬ perBad l p) (hs : l.signs[i]? = some s) {t : ByteArray} (hh : hasB s 1 t p = true) :
    ∃ q : Nat, (bearV l.signs 1 t p)[q]? = some (i : Int) ∧ nameV l i t p = (bs (t.data.toList ++ sfx q), 0) := by
  obtain ⟨q, h1, h2⟩ := place_mem (mem_bear hs hh)
  refine ⟨q, h2, ?_⟩
  have hlt := (List.getElem?_eq_some_iff.1 hs).1
  have hv : valuesE l i p = 0 := by
    unfold valuesE
    rw [if_neg (by simp [hc]), if_neg (by unfold signBad; omega), if_neg hp]
  unfold nameV
  rw [if_neg (by simp [hv]), h1]
  unfold nameAt sfx
  rw [if_neg (by omega)]
  by_cases h0 : q = 0
  · rw [if_pos (by omega), if_pos h0, List.append_nil, bs_data]
  · rw [if_neg (by omega), if_neg h0]
    have e : Lib.itoa ((q : Int) + 1) = Lib.decDigits (q + 1) := by
      unfold Lib.itoa
      rw [if_neg (by omega)]
      rfl
    rw [e]
    congr 1
/-- a name is read asq its sign -/
theorem name_read {l : SList} {i : Nat} {s : Sign} {p : Int} (hc : checkV l = 0) (hp : ¬ perBad l p) (hs : l.signs[i]? = some s) {t : ByteArray} (ht : textB 1 t = true) (hh : hasB s 1 t p = true) :
    nameV l i t p = (nameN l i t p, 0) ∧ readNameV l (nameN l i t p) p = ((i : Int), t, 0) := by
  obtain ⟨q, h1, h2⟩ := name_shape hc hp hs hh
  have hn : nameN l i t p = bs (t.data.toList ++ sfx q) := by unfold nameN; rw [h2]
  refine ⟨by rw [hn, h2], ?_⟩
  rw [hn]
  obtain ⟨g1, g2, g3⟩ := sfx_ok q
  obtain ⟨k1, k2⟩ := take_app (p := notDig) (a := t.data.toList) (b := sfx q) (text_nodig ht) g3
  unfold readNameV
  rw [if_neg (by simp [hc]), if_neg hp, bs_list]
  unfold textOf digsOf
  rw [k1, k2, bs_data, if_pos ⟨ht, g1⟩, g2]
  have hlt := (List.getElem?_eq_some_iff.1 h1).1
  unfold readAt
  rw [if_neg (by omega), show ((q : Int) + 1 - 1).toNat = q by omega, List.getD, h1]
  rfl
theorem sfx_len {q : Nat} (h : q ≤ 100000) : (sfx q).length ≤ 21 := by
  unfold sfx
  split
  · simp
  · have e : Lib.itoa ((q : Int) + 1) = Lib.decDigits (q + 1) := by
      unfold Lib.itoa
      rw [if_neg (by omega)]
      rfl
    rw [← e]
    exact Lib.itoa_length_le _ (by omega) (by omega)
theorem name_size {l : SList} {i : Nat} {s : Sign} {p : Int} (hc : checkV l = 0) (hp : ¬ perBad l p) (hs : l.signs[i]? = some s) {t : ByteArray} (ht : textB 1 t = true) (hh : hasB s 1 t p = true) : (nameN l i t p).size ≤ 1000000 := by
  obtain ⟨q, h1, h2⟩ := name_shape hc hp hs hh
  have hn : nameN l i t p = bs (t.data.toList ++ sfx q) := by unfold nameN; rw [h2]
  have hq := (List.getElem?_eq_some_iff.1 h1).1
  have hb : (bearV l.signs 1 t p).length ≤ l.signs.length := by
    unfold bearV
    rw [List.length_map]
    exact Nat.le_trans (List.length_filter_le _ _) (by simp)
  have h200 := (check_sign hc).2.1
  have hx := sfx_len (q := q) (by omega)
  unfold textB at ht
  simp only [Bool.and_eq_true, decide_eq_true_eq] at ht
  have h8 := ht.1.2
  have e0 : t.data.toList.length = t.size := rfl
  have e1 : (bs (t.data.toList ++ sfx q)).size = (t.data.toList ++ sfx q).length := rfl
  rw [hn, e1, List.length_append]
  omega
/-- names so far -/
def Named (l : SList) (p : Int) (i k : Nat) (names : List ByteArray) : Prop := ∀ x ∈ names, ∃ (i' k' : Nat) (s' : Sign) (v' : Value), (i' < i ∨ (i' = i ∧ k' < k)) ∧ l.signs[i']? = some s' ∧ (useV s' p)[k']? = some v' ∧ v'.kind = 1 ∧ x = nameN l i' v'.text p
theorem named_new {l : SList} {p : Int} {i k : Nat} {names : List ByteArray} {s : Sign} {v : Value} (hc : checkV l = 0) (hp : ¬ perBad l p) (hN : Named l p i k names) (hs : l.signs[i]? = some s) (hv : (useV s p)[k]? = some v) (hk : v.kind = 1) : nameN l i v.text p ∉ names := by
  intro hm
  obtain ⟨i', k', s', v', hb, hs', hv', hk', he⟩ := hN _ hm
  have C := (check_sign hc).2.2
  have T : ∀ {j m : Nat} {r : Sign} {u : Value}, l.signs[j]? = some r → (useV r p)[m]? = some u → u.kind = 1 → textB 1 u.text = true := fun {j m r u} h1 h2 h3 => by
    obtain ⟨x, hx⟩ := List.getElem?_of_mem (use_mem h2).1
    have := (value_at (sign_parts (C j r h1)).2.2.2.2 hx).1.2.2
    rwa [h3] at this
  have r1 := (name_read hc hp hs (T hs hv hk) (by have := use_has hv; rwa [hk] at this)).2
  have r2 := (name_read hc hp hs' (T hs' hv' hk') (by have := use_has hv'; rwa [hk'] at this)).2
  rw [he, r2] at r1
  simp only [Prod.mk.injEq] at r1
  obtain ⟨e1, e2, -⟩ := r1
  have e1 : i' = i := by omega
  subst e1
  rw [hs] at hs'
  cases hs'
  rcases hb with h | ⟨-, h⟩
  · omega
  · exact use_apart (sign_parts (C _ _ hs)).2.2.2.2 h hv' hv (hk'.trans hk.symm) e2
theorem named_next {l : SList} {p : Int} {i k : Nat} {names : List ByteArray} (hN : Named l p i k names) : Named l p i (k + 1) names := fun x hx => by
  obtain ⟨i', k', s', v', hb, h⟩ := hN x hx
  exact ⟨i', k', s', v', by omega, h⟩
theorem named_row {l : SList} {p : Int} {i k : Nat} {names : List ByteArray} (hN : Named l p i k names) : Named l p (i + 1) 0 names := fun x hx => by
  obtain ⟨i', k', s', v', hb, h⟩ := hN x hx
  exact ⟨i', k', s', v', by omega, h⟩
theorem named_add {l : SList} {p : Int} {i k : Nat} {names : List ByteArray} {s : Sign} {v : Value} (hN : Named l p i k names) (hs : l.signs[i]? = some s) (hv : (useV s p)[k]? = some v) (hk : v.kind = 1) : Named l p i (k + 1) (names ++ [nameN l i v.text p]) := fun x hx => by
  rcases List.mem_append.1 hx with hx | hx
  · exact named_next hN x hx
  · rw [List.mem_singleton] at hx
    exact ⟨i, k, s, v, by omega, hs, hv, hk, hx⟩
end Sg
