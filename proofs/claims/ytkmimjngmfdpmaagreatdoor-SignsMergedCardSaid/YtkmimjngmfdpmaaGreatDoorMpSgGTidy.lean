/- ostraconref01.put of an empty list, tidied. Made by gen_sgtidied.py. Names of the signs of a valid list: plain law. Tidy and Restrict keep what a sign says in a period: plain law. signs.Tidy. Made by gen_gtidy.py. -/
import Derived.Test.YtkmimjngmfdpmaaGreatDoorMpSgSort
import Derived.Test.YtkmimjngmfdpmaaGreatDoorMpSgTidyL
import Derived.Test.YtkmimjngmfdpmaaGreatDoorMpBegin
import Derived.Lib.ItoaLen
import Derived.Test.YtkmimjngmfdpmaaGreatDoorMpSgTidyPlain
import Derived.Test.YtkmimjngmfdpmaaGreatDoorMpSgCopy
namespace Go.Proofs.YtkmimjngmfdpmaaGreatDoor
open Go Go.RowKit

/-- a list under way: nothing, or a row that reads *-/
def RdA (w : World) (v : Value) (l : List Sg.Value) : Prop := (l = [] ∧ v = .slice none 0 0) ∨ (l ≠ [] ∧ RdS w w.heap.size 4 encValue v l)
theorem RdA.on {w w' : World} {v : Value} {l : List Sg.Value} (h : RdA w v l) (hb : Below w.heap.size w w') : RdA w' v l := by
  rcases h with h | ⟨h, hr⟩
  · exact .inl h
  · exact .inr ⟨h, (hr.below hb).more hb.size⟩
theorem RdA.rds {w : World} {v : Value} {l : List Sg.Value} (h : RdA w v l) : RdS w w.heap.size 4 encValue v l := by
  rcases h with ⟨rfl, rfl⟩ | ⟨h, hr⟩
  · exact rds_void (by omega)
  · exact hr
end Go.Proofs.YtkmimjngmfdpmaaGreatDoor
namespace Sg
open Go
theorem check_sign {l : SList} (h : checkV l = 0) : (1 ≤ l.periods ∧ l.periods ≤ 9) ∧ l.signs.length ≤ 200 ∧ ∀ (i : Nat) (s : Sign), l.signs[i]? = some s → signV l.periods (l.signs.take i) s = 0 := by
  unfold checkV at h
  split at h
  · cases h
  · split at h
    · cases h
    · refine ⟨by omega, by omega, fun i s hs => ?_⟩
      have := firstE_ne h i (List.getElem?_eq_some_iff.1 hs).1
      rwa [signAt, hs] at this
theorem sign_parts {p : Int} {b : List Sign} {s : Sign} (h : signV p b s = 0) : codeB s.code = true ∧ b.any (fun t => decide (t.code = s.code)) = false ∧ ¬ sizeBad s ∧ s.values.length ≤ 12 ∧ valuesV p s.values = 0 := by
  unfold signV at h
  split at h
  · cases h
  · rename_i h1
    rw [not_or] at h1
    unfold bodyV at h
    split at h
    · cases h
    · split at h
      · cases h
      · exact ⟨by simpa using h1.1, by simpa using h1.2, by assumption, by omega, h⟩
theorem value_at {p : Int} {l : List Value} (h : valuesV p l = 0) {k : Nat} {v : Value} (hv : l[k]? = some v) : (1 ≤ v.kind ∧ v.kind ≤ 3 ∧ textB v.kind v.text = true) ∧ (1 ≤ v.lo ∧ v.lo ≤ v.hi ∧ v.hi ≤ p) ∧ (l.take k).any (meetB v) = false := by
  have h0 := firstE_ne h k (List.getElem?_eq_some_iff.1 hv).1
  rw [valueAt, hv] at h0
  simp only at h0
  unfold valueV at h0
  split at h0
  · cases h0
  · split at h0
    · cases h0
    · split at h0
      · cases h0
      · rename_i a b c
        rw [not_or, not_or] at a b
        exact ⟨⟨by omega, by omega, by simpa using a.2.2⟩, ⟨by omega, by omega, by omega⟩, by simpa using c⟩
/-- two values of a valid sign in use in one period that say the same are one -/
theorem values_apart {p : Int} {l : List Value} (h : valuesV p l = 0) {j k : Nat} {u v : Value} (hjk : j < k) (hu : l[j]? = some u) (hv : l[k]? = some v) {q : Int} (iu : inUseB u q = true) (iv : inUseB v q = true) (hk : u.kind = v.kind) : u.text ≠ v.text := by
  intro ht
  have h3 := (value_at h hv).2.2
  rw [List.any_eq_false] at h3
  refine h3 u (List.mem_of_getElem? (i := j) (by rw [List.getElem?_take_of_lt hjk]; exact hu)) ?_
  unfold inUseB at iu iv
  simp only [Bool.and_eq_true, decide_eq_true_eq] at iu iv
  unfold meetB
  simp only [Bool.and_eq_true, decide_eq_true_eq]
  exact ⟨⟨⟨hk.symm, ht.symm⟩, by omega⟩, by omega⟩
theorem use_mem {s : Sign} {p : Int} {k : Nat} {v : Value} (hv : (useV s p)[k]? = some v) : v ∈ s.values ∧ inUseB v p = true := by
  have h := List.mem_of_getElem? hv
  unfold useV at h
  exact List.mem_filter.1 h
theorem filter_places {α : Type} (f : α → Bool) : ∀ (l : List α) (j k : Nat) (u v : α), j < k → (l.filter f)[j]? = some u → (l.filter f)[k]? = some v → ∃ j' k' : Nat, j' < k' ∧ l[j']? = some u ∧ l[k']? = some v
  | [], _, _, _, _, _, h, _ => by simp at h
  | a :: l, j, k, u, v, hjk, h1, h2 => by
    rw [List.filter_cons] at h1 h2
    by_cases hf : f a = true
    · rw [if_pos hf] at h1 h2
      obtain ⟨k, rfl⟩ : ∃ m, k = m + 1 := ⟨k - 1, by omega⟩
      rw [List.getElem?_cons_succ] at h2
      cases j with
      | zero =>
        rw [List.getElem?_cons_zero] at h1
        have hm : v ∈ l := (List.mem_filter.1 (List.mem_of_getElem? h2)).1
        obtain ⟨m, hm⟩ := List.getElem?_of_mem hm
        exact ⟨0, m + 1, by omega, h1, by simpa using hm⟩
      | succ j =>
        rw [List.getElem?_cons_succ] at h1
        obtain ⟨j', k', h3, h4, h5⟩ := filter_places f l j k u v (by omega) h1 h2
        exact ⟨j' + 1, k' + 1, by omega, by simpa using h4, by simpa using h5⟩
    · rw [if_neg hf] at h1 h2
      obtain ⟨j', k', h3, h4, h5⟩ := filter_places f l j k u v hjk h1 h2
      exact ⟨j' + 1, k' + 1, by omega, by simpa using h4, by simpa using h5⟩
theorem use_apart {pp p : Int} {s : Sign} (h : valuesV pp s.values = 0) {j k : Nat} {u v : Value} (hjk : j < k) (hu : (useV s p)[j]? = some u) (hv : (useV s p)[k]? = some v) (hk : u.kind = v.kind) : u.text ≠ v.text := by
  obtain ⟨j', k', h1, h2, h3⟩ := filter_places _ s.values j k u v hjk hu hv
  exact values_apart h h1 h2 h3 (use_mem hu).2 (use_mem hv).2 hk
/-- the digits of a place -/
def sfx (q : Nat) : List UInt8 := if q = 0 then [] else Lib.decDigits (q + 1)
end Sg
namespace Sg
open Go
def nmV (v : Value) : Int × ByteArray := (v.kind, v.text)
def useL (L : List Value) (p : Int) : List Value := L.filter (inUseB · p)
def sameN (x y : Value) : Bool := decide (x.kind = y.kind) && decide (x.text = y.text)
/-- the same names, each asq often -/
def alikeB (a b : List Value) : Bool := decide (a.length = b.length) && a.all fun x => b.any (sameN x)
theorem nodup_le {α : Type} : ∀ {l m : List α}, l.Nodup → (∀ x ∈ l, x ∈ m) → l.length ≤ m.length
  | [], _, _, _ => Nat.zero_le _
  | a :: l, m, h, hs => by
    obtain ⟨s, t, rfl⟩ := List.append_of_mem (hs a (by simp))
    rw [List.nodup_cons] at h
    have := nodup_le (l := l) (m := s ++ t) h.2 fun x hx => by
      have h1 := hs x (by simp [hx])
      rw [List.mem_append, List.mem_cons] at h1
      rw [List.mem_append]
      rcases h1 with h1 | h1 | h1
      · exact .inl h1
      · exact absurd (h1 ▸ hx) h.1
      · exact .inr h1
    rw [List.length_append] at this
    rw [List.length_append, List.length_cons, List.length_cons]
    omega
theorem alike_of {a b : List Value} (ha : (a.map nmV).Nodup) (hb : (b.map nmV).Nodup) (h : ∀ x, x ∈ a.map nmV ↔ x ∈ b.map nmV) : alikeB a b = true := by
  have h1 := nodup_le ha fun x hx => (h x).1 hx
  have h2 := nodup_le hb fun x hx => (h x).2 hx
  rw [List.length_map, List.length_map] at h1 h2
  unfold alikeB
  rw [Bool.and_eq_true]
  refine ⟨by simp; omega, List.all_eq_true.2 fun x hx => ?_⟩
  obtain ⟨y, hy, e⟩ := List.mem_map.1 ((h (nmV x)).1 (List.mem_map.2 ⟨x, hx, rfl⟩))
  rw [List.any_eq_true]
  refine ⟨y, hy, ?_⟩
  unfold nmV at e
  simp only [Prod.mk.injEq] at e
  unfold sameN
  simp [e.1, e.2]
theorem names_use {L : List Value} {p : Int} {x : Int × ByteArray} : x ∈ (useL L p).map nmV ↔ Cov L x.1 x.2 p := by
  unfold useL Cov nmV
  rw [List.mem_map]
  constructor
  · rintro ⟨v, hv, rfl⟩
    obtain ⟨h1, h2⟩ := List.mem_filter.1 hv
    unfold inUseB at h2
    simp only [Bool.and_eq_true, decide_eq_true_eq] at h2
    exact ⟨v, h1, rfl, rfl, h2.1, h2.2⟩
  · rintro ⟨v, h1, h2, h3, h4, h5⟩
    refine ⟨v, List.mem_filter.2 ⟨h1, by unfold inUseB; simp [h4, h5]⟩, ?_⟩
    rw [h2, h3]
theorem nodup_of_at {α : Type} {l : List α} (h : ∀ (i j : Nat) (a b : α), i < j → l[i]? = some a → l[j]? = some b → a ≠ b) : l.Nodup := by
  unfold List.Nodup
  rw [List.pairwise_iff_getElem]
  intro i j hi hj hij
  exact h i j _ _ hij (List.getElem?_eq_getElem hi) (List.getElem?_eq_getElem hj)
theorem use_nodup {pp p : Int} {L : List Value} (h : valuesV pp L = 0) : ((useL L p).map nmV).Nodup := by
  refine nodup_of_at fun i j a b hij ha hb e => ?_
  rw [List.getElem?_map] at ha hb
  obtain ⟨u, hu, rfl⟩ := Option.map_eq_some_iff.1 ha
  obtain ⟨v, hv, rfl⟩ := Option.map_eq_some_iff.1 hb
  unfold nmV at e
  simp only [Prod.mk.injEq] at e
  exact use_apart (s := ⟨⟨#[]⟩, 0, 0, false, L⟩) h hij hu hv e.1 e.2
theorem use_canon {p : Int} {L : List Value} (h : Canon L) : ((useL L p).map nmV).Nodup := by
  refine nodup_of_at fun i j a b hij ha hb e => ?_
  rw [List.getElem?_map] at ha hb
  obtain ⟨u, hu, rfl⟩ := Option.map_eq_some_iff.1 ha
  obtain ⟨v, hv, rfl⟩ := Option.map_eq_some_iff.1 hb
  unfold nmV at e
  simp only [Prod.mk.injEq] at e
  have hiu := (List.mem_filter.1 (List.mem_of_getElem? hu)).2
  have hiv := (List.mem_filter.1 (List.mem_of_getElem? hv)).2
  obtain ⟨i', j', h1, h2, h3⟩ := filter_places _ L i j u v hij hu hv
  have hp := List.pairwise_iff_getElem.1 h.2 i' j' (List.getElem?_eq_some_iff.1 h2).1 (List.getElem?_eq_some_iff.1 h3).1 h1
  rw [(List.getElem?_eq_some_iff.1 h2).2, (List.getElem?_eq_some_iff.1 h3).2] at hp
  unfold inUseB at hiu hiv
  simp only [Bool.and_eq_true, decide_eq_true_eq] at hiu hiv
  rcases hp with q | ⟨q, q'⟩
  · exact nlt_irr q ⟨e.1, e.2⟩
  · omega
/-- what Tidy and Restrict make of a list -/
def tidyS (s : Sign) : Sign := ⟨s.code, s.wide, s.high, s.even, tidiedV s.values⟩
def tidyL (l : SList) : SList := ⟨l.periods, l.signs.map tidyS⟩
def noL : SList := ⟨0, []⟩
def tidyR (l : SList) : SList := if checkV l = 0 then tidyL l else noL
end Sg
namespace Go.Proofs.YtkmimjngmfdpmaaGreatDoor
open Go Go.RowKit

def RetListE (q : Sg.SList) (er : Int) (w : World) (e : Ending) (w' : World) : Prop := ∃ v, e = .returned (.tuple #[v, .int .i64 er]) ∧ RdSL w' w'.heap.size v q ∧ Below w.heap.size w w'
theorem rdsl_zero (w : World) : RdSL w w.heap.size (.agg #[.int .i64 0, .slice none 0 0]) Sg.noL := ⟨⟨_, rfl, ⟨none, 0, rfl, Nat.le_refl _, by omega, fun h => absurd h (by simp [Sg.noL])⟩⟩, fun s hs => by cases hs⟩
theorem RetListE.zero {w w' : World} {q : Sg.SList} {er a : Int} (hq : q = Sg.noL) (he : er = a) (hb : Below w.heap.size w w') : RetListE q er w (.returned (.tuple #[.agg #[.int .i64 0, .slice none 0 0], .int .i64 a])) w' := by
  subst hq; subst he
  exact ⟨_, rfl, rdsl_zero w', hb⟩
/-- the texts of tidied values are texts of the values -/
theorem Sg.tidied_text {L : List Sg.Value} {x : Sg.Value} (h : x ∈ Sg.tidiedV L) : ∃ y ∈ L, y.kind = x.kind ∧ y.text = x.text := by
  obtain ⟨h1, h2⟩ := Sg.tidied_canon L
  obtain ⟨y, hy, e1, e2, -⟩ := (h2 x.kind x.text x.lo).1 ⟨x, h, rfl, rfl, Int.le_refl _, h1.1 x h⟩
  exact ⟨y, hy, e1, e2⟩
theorem Sg.tidyS_fits {s : Sg.Sign} (h : Sg.Sign.fits s) : Sg.Sign.fits (Sg.tidyS s) := ⟨h.1, fun v hv => by
  obtain ⟨y, hy, -, e⟩ := Sg.tidied_text hv
  have := h.2 y hy
  unfold Sg.Value.fits at this ⊢
  rw [← e]; exact this⟩
set_option maxRecDepth 100000 in
set_option maxHeartbeats 8000000 in
theorem gTidy_any (v : Value) (l : Sg.SList) (w : World) (hr : RdSL w w.heap.size v l) : Calls Tryz.prog 42 #[v] w (RetListE (Sg.tidyR l) (Sg.checkV l) w) := by
  have HRL := Lib.hid hr
  obtain ⟨⟨u, rfl, hg⟩, hf⟩ := hr
  obtain ⟨A0, c0, rfl⟩ := hg.form
  have HG0 := Lib.hid hg
  have HFS := Lib.hid hf
  obtain ⟨i1, hi1, hz1, hs1', hb1'⟩ := info_parts info_Sign
  obtain ⟨W1, hW1⟩ : ∃ W1, W1 = (w.alloc (.cells #[.int .i64 l.periods, .slice A0 l.signs.length c0] 24)).alloc (.cells #[.int .i64 0, .slice none 0 0] 24) := ⟨_, rfl⟩
  have hb1 : Below w.heap.size w W1 := by rw [hW1]; exact ((Below.refl _ _).alloc (Nat.le_refl _) _).alloc (by simp) _
  have hX : W1.heap[w.heap.size]? = some (.cells #[.int .i64 l.periods, .slice A0 l.signs.length c0] 24 (0, 0)) := by rw [hW1]; exact start_fst w _ _
  have hY : W1.heap[w.heap.size + 1]? = some (.cells #[.int .i64 0, .slice none 0 0] 24 (0, 0)) := by rw [hW1]; exact start_res' w _ _
  have hs1 : w.heap.size + 1 < W1.heap.size := (Array.getElem?_eq_some_iff.1 hY).1
  have x0 : W1.cell? ⟨w.heap.size, 0, none⟩ = some (.int .i64 l.periods) := by simp [World.cell?, hX]
  have x1 : W1.cell? ⟨w.heap.size, 1, none⟩ = some (.slice A0 l.signs.length c0) := by simp [World.cell?, hX]
  have HB1 := Lib.hid hb1
  have HW1 := Lib.hid hW1
  have HX1 := Lib.hid hX
  have HY1 := Lib.hid hY
  have HCK := Lib.hid (gCheck_any _ l W1 (HRL.out.on hb1))
  obtain ⟨e1, he1⟩ : ∃ e1, e1 = Sg.checkV l := ⟨_, rfl⟩
  have HE1 := Lib.hid he1
  rw [← he1] at HCK ⊢
  obtain ⟨res, hres⟩ : ∃ r, r = Sg.tidyR l := ⟨_, rfl⟩
  have HRES := Lib.hid hres
  rw [← hres]
  clear hg hf hW1 hb1 hX hY he1 hres
  go_enter Tryz.func42, Tryz.ntmps42
  go_upto_region 1 with fail
  rw [← HW1.out]
  go_wp2_with fail
  refine HCK.out.mono ?_
  rintro e w2 ⟨rfl, hb2⟩
  have HB2 := Lib.hid (HB1.out.trans (hb2.mono (by omega)))
  have hx2 := (hb2.block w.heap.size (by omega)).trans HX1.out
  have hy2 := (hb2.block (w.heap.size + 1) hs1).trans HY1.out
  have hs2 : w.heap.size + 1 < w2.heap.size := (Array.getElem?_eq_some_iff.1 hy2).1
  have HY2 := Lib.hid hy2
  clear hb2 x0 x1
  by_cases h0 : e1 = 0
  case neg =>
    have HN : Hid (res = Sg.noL) := Lib.hid (by rw [HRES.out]; unfold Sg.tidyR; rw [if_neg (by rw [← HE1.out]; exact h0)])
    have c0' : w2.cell? ⟨w.heap.size + 1, 0, none⟩ = some (.int .i64 0) := by simp [World.cell?, hy2]
    have c1' : w2.cell? ⟨w.heap.size + 1, 1, none⟩ = some (.slice none 0 0) := by simp [World.cell?, hy2]
    have z0' : w2.frozen? ⟨w.heap.size + 1, 0, none⟩ = false := by simp [World.frozen?, hy2]
    have z1' : w2.frozen? ⟨w.heap.size + 1, 1, none⟩ = false := by simp [World.frozen?, hy2]
    clear hx2 hy2
    go_wp2_with fail
    refine bodyPost_ret (v := .tuple #[.agg #[.int .i64 0, .slice none 0 0], .int .i64 e1]) (by simp [results, Tryz.results42, go_sem, c0', c1']) rfl ?_
    exact RetListE.zero HN.out rfl ((HB2.out.setCell (by show w.heap.size ≤ w.heap.size + 1; omega) _).setCell (by show w.heap.size ≤ w.heap.size + 1; omega) _)
  subst h0
  have HCL : Hid (Sg.checkV l = 0) := Lib.hid HE1.out.symm
  have HN : Hid (res = Sg.tidyL l) := Lib.hid (by rw [HRES.out]; unfold Sg.tidyR; rw [if_pos HCL.out])
  have HVF : Hid (∀ s ∈ l.signs, s.values.length ≤ 12 ∧ ∀ x ∈ s.values, 1 ≤ x.lo ∧ x.lo ≤ x.hi ∧ x.hi ≤ 100) := Lib.hid fun s hs => by
    obtain ⟨i, hi⟩ := List.getElem?_of_mem hs
    have hc := Sg.check_sign HCL.out
    have hp := Sg.sign_parts (hc.2.2 i s hi)
    refine ⟨hp.2.2.2.1, fun x hx => ?_⟩
    obtain ⟨j, hj⟩ := List.getElem?_of_mem hx
    have := (Sg.value_at hp.2.2.2.2 hj).2.1
    have := hc.1
    omega
  have hsl := (Sg.check_sign HCL.out).2.1
  have x0 : w2.cell? ⟨w.heap.size, 0, none⟩ = some (.int .i64 l.periods) := by simp [World.cell?, hx2]
  have x1 : w2.cell? ⟨w.heap.size, 1, none⟩ = some (.slice A0 l.signs.length c0) := by simp [World.cell?, hx2]
  obtain ⟨w3, hw3⟩ : ∃ w3, w3 = w2.alloc (.cells #[.int .i64 l.periods, .slice none 0 0] 24) := ⟨_, rfl⟩
  obtain ⟨ob, hob⟩ : ∃ ob, ob = w2.heap.size := ⟨_, rfl⟩
  have hb3 : Below w2.heap.size w2 w3 := by rw [hw3]; exact (Below.refl _ _).alloc (Nat.le_refl _) _
  have hz3 : w3.heap[ob]? = some (.cells #[.int .i64 l.periods, .slice none 0 0] 24 (0, 0)) := by rw [hw3, hob]; exact heap_alloc_new _ _
  have hobl : w.heap.size + 1 < ob := by omega
  have HB3 := Lib.hid (HB2.out.trans (hb3.mono (by omega)))
  have HY3 := Lib.hid ((hb3.block (w.heap.size + 1) hs2).trans hy2)
  have HX3 := Lib.hid ((hb3.block w.heap.size (by omega)).trans hx2)
  have HZ3 := Lib.hid hz3
  have HW3 := Lib.hid hw3
  have HOB := Lib.hid hob
  clear hx2 hy2 hb3 hz3 hw3 hob
  go_upto_region 5 with fail
  rw [← HW3.out, ← HOB.out]
  clear x0 x1
  have x1 : w3.cell? ⟨w.heap.size, 1, none⟩ = some (.slice A0 l.signs.length c0) := by
    have := HX3.out
    simp [World.cell?, this]
  go_wp2_with fail
  clear x1
  go_loopg [20] l.signs.length (fun g i wr => ∃ (k : Nat) (vv : Value), k ≤ l.signs.length ∧ g = l.signs.length - k ∧ i = .int .i64 (k : Nat) ∧ Below w.heap.size w wr ∧ wr.heap[w.heap.size + 1]? = some (.cells #[.int .i64 0, .slice none 0 0] 24 (0, 0)) ∧ wr.heap[ob]? = some (.cells #[.int .i64 l.periods, vv] 24 (0, 0)) ∧ OwnG KSign 67 wr (ob + 1) vv ((l.signs.take k).map Sg.tidyS))
  case atStart => exact ⟨0, .slice none 0 0, Nat.zero_le _, rfl, rfl, HB3.out, HY3.out, HZ3.out, OwnG.nil _ _ _⟩
  case round =>
    obtain ⟨k, vv, hk, rfl, rfl, hbel, hy, hz, hown⟩ := hrel
    obtain ⟨Av, cv, rfl⟩ := hown.form
    have hlt3 : ob < wr.heap.size := (Array.getElem?_eq_some_iff.1 hz).1
    have HBW := Lib.hid hbel
    have HY := Lib.hid hy
    have HZ := Lib.hid hz
    have HOK := Lib.hid hown
    have htk : ((l.signs.take k).map Sg.tidyS).length = k := by rw [List.length_map, List.length_take]; omega
    clear hbel hy hz hown
    by_cases hlt : k < l.signs.length
    · obtain ⟨b, off, rfl, hb, hcell⟩ := HG0.out.five (by omega)
      obtain ⟨s, hs⟩ : ∃ s, l.signs[k]? = some s := ⟨_, List.getElem?_eq_getElem hlt⟩
      obtain ⟨uv, hrd, g0, g1, g2, g3, g4⟩ := hcell k s hs
      have f0 := (HBW.out.cell (p := ⟨b, off + k * 5, none⟩) hb).trans g0
      have f1 := (HBW.out.cell (p := ⟨b, off + k * 5 + 1, none⟩) hb).trans g1
      have f2 := (HBW.out.cell (p := ⟨b, off + k * 5 + 2, none⟩) hb).trans g2
      have f3 := (HBW.out.cell (p := ⟨b, off + k * 5 + 3, none⟩) hb).trans g3
      have f4 := (HBW.out.cell (p := ⟨b, off + k * 5 + 4, none⟩) hb).trans g4
      obtain ⟨A2, c2, rfl, hvc, hvm⟩ := rds_form hrd.rds
      have hvl := HVF.out s (List.mem_of_getElem? hs)
      obtain ⟨wS, hwS⟩ : ∃ wS, wS = wr.alloc (.cells #[.string s.code, .int .i64 s.wide, .int .i64 s.high, .bool s.even, .slice A2 s.values.length c2] 67) := ⟨_, rfl⟩
      have hbS : Below wr.heap.size wr wS := by rw [hwS]; exact (Below.refl _ _).alloc (Nat.le_refl _) _
      have hsb : wS.heap[wr.heap.size]? = some (.cells #[.string s.code, .int .i64 s.wide, .int .i64 s.high, .bool s.even, .slice A2 s.values.length c2] 67 (0, 0)) := by rw [hwS]; exact heap_alloc_new _ _
      have hszS : wr.heap.size < wS.heap.size := by rw [hwS]; simp
      have HBWS := Lib.hid (HBW.out.trans (hbS.mono (by omega)))
      have HBS := Lib.hid hbS
      have HSB := Lib.hid hsb
      have s4 : wS.cell? ⟨wr.heap.size, 4, none⟩ = some (.slice A2 s.values.length c2) := by simp [World.cell?, hsb]
      have HTD := Lib.hid (gTidyL_any _ s.values wS ((hrd.rds.below HBWS.out).more HBWS.out.size) (by have := hvl.1; omega) hvl.2)
      obtain ⟨T, hT⟩ : ∃ T, T = Sg.tidiedV s.values := ⟨_, rfl⟩
      have HT := Lib.hid hT
      rw [← hT] at HTD
      have HS := Lib.hid hs
      have HWS := Lib.hid hwS
      have hkI : (0 : Int) ≤ (k : Int) := by omega
      have hkJ : (k : Int) < (l.signs.length : Int) := by omega
      clear hcell hs g0 g1 g2 g3 g4 hrd hwS hbS hsb hT hvl
      go_upto_region 8 with fail
      rw [← HWS.out]
      clear f0 f1 f2 f3 f4
      go_wp2_with fail
      refine HTD.out.mono ?_
      rintro e w8 ⟨v8, rfl, hown8', hb8⟩
      obtain ⟨A8, c8, rfl⟩ := own_form hown8'
      have hsz8' : wS.heap.size ≤ w8.heap.size := hb8.size
      have hsb8 := (hb8.block wr.heap.size (by omega)).trans HSB.out
      have HRX := Lib.hid (rdx_of_own len_value hown8')
      have s4 : w8.cell? ⟨wr.heap.size, 4, none⟩ = some (.slice A2 s.values.length c2) := by simp [World.cell?, hsb8]
      have y4 : w8.frozen? ⟨wr.heap.size, 4, none⟩ = false := by simp [World.frozen?, hsb8]
      obtain ⟨w9, hw9⟩ : ∃ w9, w9 = w8.setCell ⟨wr.heap.size, 4, none⟩ (.slice A8 T.length c8) := ⟨_, rfl⟩
      have hsb9 : w9.heap[wr.heap.size]? = some (.cells #[.string s.code, .int .i64 s.wide, .int .i64 s.high, .bool s.even, .slice A8 T.length c8] 67 (0, 0)) := by rw [hw9]; exact gset hsb8 _
      have hb9 : Below wr.heap.size wr w9 := by rw [hw9]; exact (HBS.out.trans (hb8.mono (by omega))).setCell (Nat.le_refl _) _
      have hsz9 : w8.heap.size ≤ w9.heap.size := by rw [hw9]; simp [World.setCell]
      have HSZ9 : Hid (w9.heap.size = w8.heap.size) := Lib.hid (by rw [hw9]; simp [World.setCell])
      have HK9 : Hid (∀ j, wS.heap.size ≤ j → w9.heap[j]? = w8.heap[j]?) := Lib.hid fun j hj => by rw [hw9]; exact Below.heap_setCell _ ⟨wr.heap.size, 4, none⟩ _ _ (by show j ≠ wr.heap.size; omega)
      have HW9 := Lib.hid hw9
      have HB9 := Lib.hid hb9
      have HY9 := Lib.hid ((hb9.block (w.heap.size + 1) (by omega)).trans HY.out)
      have hz9 := (hb9.block ob (by omega)).trans HZ.out
      have HZ9 := Lib.hid hz9
      clear hown8' hb8 hsb8 hw9 hb9
      go_upto_region 9 with fail
      rw [← HW9.out]
      clear s4 y4
      have v0 : w9.cell? ⟨wr.heap.size, 0, none⟩ = some (.string s.code) := by simp [World.cell?, hsb9]
      have v1 : w9.cell? ⟨wr.heap.size, 1, none⟩ = some (.int .i64 s.wide) := by simp [World.cell?, hsb9]
      have v2 : w9.cell? ⟨wr.heap.size, 2, none⟩ = some (.int .i64 s.high) := by simp [World.cell?, hsb9]
      have v3 : w9.cell? ⟨wr.heap.size, 3, none⟩ = some (.bool s.even) := by simp [World.cell?, hsb9]
      have v4 : w9.cell? ⟨wr.heap.size, 4, none⟩ = some (.slice A8 T.length c8) := by simp [World.cell?, hsb9]
      have c1 : w9.cell? ⟨ob, 1, none⟩ = some (.slice Av k cv) := by
        have := hz9
        rw [htk] at this
        simp [World.cell?, this]
      have HO9 : Hid (OwnG KSign 67 (w9.alloc (.cells #[.string s.code, .int .i64 s.wide, .int .i64 s.high, .bool s.even, .slice A8 T.length c8] 67)) (ob + 1) (.slice Av k cv) ((l.signs.take k).map Sg.tidyS)) := Lib.hid (by
        have := HOK.out.kept (HB9.out.trans ((Below.refl _ _).alloc (by omega) (.cells #[.string s.code, .int .i64 s.wide, .int .i64 s.high, .bool s.even, .slice A8 T.length c8] 67)))
        rwa [htk] at this)
      clear hsb9 hz9
      obtain ⟨cells, hown3, hgr3⟩ := HO9.out
      rw [htk] at hown3
      have HGR := Lib.hid hgr3
      have HOS := Lib.hid hown3
      have HRD := Lib.hid (rd_one_sign w9 (s.code, s.wide, s.high, s.even, (A8, T.length, c8)))
      have hk1 : k + 1 ≤ maxLen := by simp only [maxLen]; omega
      have hk2 : (k + 1) * 64 ≤ 140737488355328 := by omega
      have hbase : ob + 1 ≤ (w9.alloc (.cells #[.string s.code, .int .i64 s.wide, .int .i64 s.high, .bool s.even, .slice A8 T.length c8] 67)).heap.size := by simp; omega
      clear hgr3 hown3
      go_wp2_with (at_builtin; go_must (refine wpList_append_rd (enc := encS) rfl (.tmp 29) (.tmp 31) _ rfl (ob + 1) 67 i1 _ 5 64 len_S one_S Tryz.underlying22 hi1 hz1 hs1' hb1' rfl (by decide) (.slice Av k cv) k cells rfl HOS.out _ (.slice (some ⟨w9.heap.size, 0, none⟩) 1 1) [(s.code, s.wide, s.high, s.even, (A8, T.length, c8))] rfl HRD.out hk1 hk2 hbase ?_))
      intro v5 w5 hown5 hg5 hat5
      obtain ⟨A5, c5, hv5⟩ := own_form hown5
      have hv5' : v5 = .slice A5 (k + 1) c5 := hv5
      clear hv5
      subst hv5'
      have hsz5 := hg5.size
      have hbl5 : ∀ j, j < ob + 1 → w5.heap[j]? = w9.heap[j]? := fun j hj => (hg5.block _ (by simp; omega) (fun e => by have := (HOS.out.lt _ e.symm).1; omega)).trans (((Below.refl w9.heap.size w9).alloc (Nat.le_refl _) _).block j (by omega))
      have hy5 := (hbl5 _ (by omega)).trans HY9.out
      have hz5 := (hbl5 _ (by omega)).trans HZ9.out
      have hb5 : Below w.heap.size w w5 := ((HBW.out.trans (HB9.out.mono (by omega))).alloc (by omega) _).grown hg5 (by simp; omega) (fun q hq => by have := (HOS.out.lt q hq).1; omega)
      have HON : Hid (OwnG KSign 67 w5 (ob + 1) (.slice A5 (k + 1) c5) ((l.signs.take (k + 1)).map Sg.tidyS)) := Lib.hid (by
        rw [List.take_add_one, HS.out, Option.toList_some, List.map_append, List.map_singleton]
        refine OwnG.snoc HGR.out (cs := encS (s.code, s.wide, s.high, s.even, (A8, T.length, c8))) ⟨.slice A8 T.length c8, rfl, ?_⟩ (by rw [htk]; exact hown5) hg5 ?_
        · show RdX _ _ 4 encValue _ (Sg.tidiedV s.values)
          rw [← HT.out]
          refine HRX.out.keep fun j hj => ⟨⟨by simp; omega, fun e => ?_, by omega⟩, ?_⟩
          · have := (HOK.out.lt j (by rw [htk]; exact e)).2
            omega
          · exact (((Below.refl w9.heap.size w9).alloc (Nat.le_refl _) _).block j (by omega)).trans (HK9.out j (by omega))
        · rcases hat5 with h | h
          · exact .inl h
          · exact .inr ⟨_, h, by simp⟩)
      have c1 : w5.cell? ⟨ob, 1, none⟩ = some (.slice Av k cv) := by
        have := hz5
        rw [htk] at this
        simp [World.cell?, this]
      have z1 : w5.frozen? ⟨ob, 1, none⟩ = false := by simp [World.frozen?, hz5]
      obtain ⟨w6, hw6⟩ : ∃ w6, w6 = w5.setCell ⟨ob, 1, none⟩ (.slice A5 (k + 1) c5) := ⟨_, rfl⟩
      have HZ6 : Hid (w6.heap[ob]? = some (.cells #[.int .i64 l.periods, .slice A5 (k + 1) c5] 24 (0, 0))) := Lib.hid (by rw [hw6]; exact gset hz5 _)
      have HY6 : Hid (w6.heap[w.heap.size + 1]? = some (.cells #[.int .i64 0, .slice none 0 0] 24 (0, 0))) := Lib.hid (by rw [hw6, Below.heap_setCell _ ⟨ob, 1, none⟩ _ _ (by show w.heap.size + 1 ≠ ob; omega)]; exact hy5)
      have HB6 : Hid (Below w.heap.size w w6) := Lib.hid (by rw [hw6]; exact hb5.setCell (by show w.heap.size ≤ ob; omega) _)
      have HO6 : Hid (OwnG KSign 67 w6 (ob + 1) (.slice A5 (k + 1) c5) ((l.signs.take (k + 1)).map Sg.tidyS)) := Lib.hid (by rw [hw6]; exact HON.out.aside (grown_set _ _ _) (by intro q hq; cases hq; show ob < _; omega))
      have HW6 := Lib.hid hw6
      clear hown5 hg5 hat5 hbl5 hy5 hz5 hb5 hw6 v0 v1 v2 v3 v4 hsz5
      go_upto_region 10 with fail
      rw [← HW6.out]
      clear c1 z1
      go_wp2_with fail
      go_roundg (l.signs.length - (k + 1))
      case measure => omega
      case rel => exact ⟨k + 1, .slice A5 (k + 1) c5, by omega, rfl, by go_num, HB6.out, HY6.out, HZ6.out, HO6.out⟩
    · have hkl : k = l.signs.length := by omega
      have hkJ : ¬ (k : Int) < (l.signs.length : Int) := by omega
      have HRG : Hid (RdG KSign wr (fun b => b < wr.heap.size ∧ ob + 1 ≤ b) (.slice Av ((l.signs.take k).map Sg.tidyS).length cv) (l.signs.map Sg.tidyS)) := Lib.hid (by
        have := HOK.out.rd
        rwa [show l.signs.take k = l.signs by rw [hkl]; exact List.take_length] at this ⊢)
      have hz := HZ.out
      have hy := HY.out
      have m0 : wr.cell? ⟨ob, 0, none⟩ = some (.int .i64 l.periods) := by simp [World.cell?, hz]
      have m1 : wr.cell? ⟨ob, 1, none⟩ = some (.slice Av ((l.signs.take k).map Sg.tidyS).length cv) := by simp [World.cell?, hz]
      have n0 : wr.cell? ⟨w.heap.size + 1, 0, none⟩ = some (.int .i64 0) := by simp [World.cell?, hy]
      have n1 : wr.cell? ⟨w.heap.size + 1, 1, none⟩ = some (.slice none 0 0) := by simp [World.cell?, hy]
      have y0 : wr.frozen? ⟨w.heap.size + 1, 0, none⟩ = false := by simp [World.frozen?, hy]
      have y1 : wr.frozen? ⟨w.heap.size + 1, 1, none⟩ = false := by simp [World.frozen?, hy]
      clear hz hy hkl
      generalize ((l.signs.take k).map Sg.tidyS).length = nk at m1 HRG htk
      clear htk
      go_wp2_with fail
      refine bodyPost_ret (v := .tuple #[.agg #[.int .i64 l.periods, .slice Av nk cv], .int .i64 0]) (by simp [results, Tryz.results42, go_sem, n0, n1]) rfl ?_
      refine ⟨_, rfl, ?_, (HBW.out.setCell (by show w.heap.size ≤ w.heap.size + 1; omega) _).setCell (by show w.heap.size ≤ w.heap.size + 1; omega) _⟩
      rw [HN.out]
      refine ⟨⟨_, rfl, HRG.out.keep fun j hj => ⟨by simp [World.setCell]; omega, ?_⟩⟩, fun s hs => ?_⟩
      · rw [Below.heap_setCell _ ⟨w.heap.size + 1, 1, none⟩ _ _ (by show j ≠ w.heap.size + 1; omega), Below.heap_setCell _ ⟨w.heap.size + 1, 0, none⟩ _ _ (by show j ≠ w.heap.size + 1; omega)]
      · obtain ⟨u, hu, rfl⟩ := List.mem_map.1 hs
        exact Sg.tidyS_fits (HFS.out u hu)
end Go.Proofs.YtkmimjngmfdpmaaGreatDoor
