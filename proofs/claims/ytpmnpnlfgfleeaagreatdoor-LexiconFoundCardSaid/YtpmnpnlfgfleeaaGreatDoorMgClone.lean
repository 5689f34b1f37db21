/- The cuts of a line: how many, what they say and weigh, no two alike: plain law. slices.Clone at []int, for every slice that reads as a list. -/
import Derived.Test.YtpmnpnlfgfleeaaGreatDoorMgSounds
import Derived.Test.YtpmnpnlfgfleeaaGreatDoorMgRankProg
import Derived.Test.YtpmnpnlfgfleeaaGreatDoorMgStem
namespace Go.Proofs.YtpmnpnlfgfleeaaGreatDoor
open Go.RowKit

section count
theorem Lx.fold_len {most : Nat} (L : List Lx.Cut) : (L.foldl (Lx.putC most) []).length = min most L.length := by
  have e := Lx.foldl_putC most L []
  rw [List.take_nil] at e
  rw [e, List.length_take, (Lx.foldl_insC_perm L []).length_eq, List.append_nil]
theorem Lx.sum_min {α : Type} (most : Nat) (f : α → Nat) : ∀ l : List α, min most (l.map fun a => min most (f a)).sum = min most (l.map f).sum
  | [] => rfl
  | a :: r => by
    have h := Lx.sum_min most f r
    simp only [List.map_cons, List.sum_cons]
    omega
theorem Lx.tab_count {x : Lx.Lexicon} {most : Nat} {ats : Nat → List Lx.Match} {n : Nat} (h1 : 1 ≤ most) (h2 : most ≤ Lx.cnt) : ∀ k j, (Lx.tabT x (Lx.putT most) ats n k j).length = min most (Lx.wayT ats n k j)
  | 0, j => by
    unfold Lx.tabT Lx.wayT
    split
    · simp; omega
    · simp
  | k + 1, j => by
    unfold Lx.tabT Lx.wayT
    split
    · have e := congrArg List.length (Lx.map_addMs (x := x) (most := most) (tab := Lx.tabT x (Lx.putT most) ats n k) (i := n - (k + 1)) (ats (n - (k + 1))))
      rw [List.length_map, Lx.fold_len, List.length_flatMap] at e
      rw [e, Lx.foldl_addTo _ _ (Nat.zero_le _), Nat.zero_add]
      have e2 : ((ats (n - (k + 1))).map fun m => (((Lx.tabT x (Lx.putT most) ats n k (n - (k + 1) + m.long)).map Lx.cutOf).map (Lx.pushC x m.form)).length) = (ats (n - (k + 1))).map fun m => min most (Lx.wayT ats n k (n - (k + 1) + m.long)) := by
        refine List.map_congr_left fun m _ => ?_
        rw [List.length_map, List.length_map, Lx.tab_count h1 h2 k _]
      rw [e2, Lx.sum_min most (fun m : Lx.Match => Lx.wayT ats n k (n - (k + 1) + m.long))]
      omega
    · exact Lx.tab_count h1 h2 k j
end count

section path
inductive Lx.Path (ats : Nat → List Lx.Match) : Nat → Nat → Prop
  | refl (i : Nat) : Lx.Path ats i i
  | step {i j : Nat} (m : Lx.Match) : m ∈ ats i → Lx.Path ats (i + m.long) j → Lx.Path ats i j
variable {ats : Nat → List Lx.Match} {n : Nat}
theorem Lx.Path.snoc {i j : Nat} (h : Lx.Path ats i j) {m : Lx.Match} (hm : m ∈ ats j) : Lx.Path ats i (j + m.long) := by
  induction h with
  | refl i => exact .step m hm (.refl _)
  | step m' hm' _ ih => exact .step m' hm' (ih hm)
theorem Lx.way_path (hat : ∀ i, i < n → ∀ m ∈ ats i, 1 ≤ m.long ∧ i + m.long ≤ n) : ∀ k, k ≤ n → ∀ j, n - k ≤ j → j ≤ n → (0 < Lx.wayT ats n k j ↔ Lx.Path ats j n)
  | 0, _, j, h1, h2 => by
    have e : j = n := by omega
    subst e
    unfold Lx.wayT
    rw [if_pos rfl]
    exact ⟨fun _ => .refl _, fun _ => Nat.one_pos⟩
  | k + 1, hk, j, h1, h2 => by
    unfold Lx.wayT
    by_cases hj : j = n - (k + 1)
    · rw [if_pos hj, Lx.foldl_addTo _ _ (Nat.zero_le _), Nat.zero_add]
      have hjn : j < n := by omega
      have hc : 0 < Lx.cnt := by simp [Lx.cnt]
      rw [← hj]
      have key : (∃ m ∈ ats j, 0 < Lx.wayT ats n k (j + m.long)) ↔ Lx.Path ats j n := by
        constructor
        · rintro ⟨m, hm, h0⟩
          have hh := hat j hjn m hm
          exact .step m hm ((Lx.way_path hat k (by omega) _ (by omega) hh.2).1 h0)
        · intro hp
          cases hp with
          | refl => omega
          | step m hm hp =>
            have hh := hat j hjn m hm
            exact ⟨m, hm, (Lx.way_path hat k (by omega) _ (by omega) hh.2).2 hp⟩
      rw [← key]
      have hs : 0 < ((ats j).map fun m => Lx.wayT ats n k (j + m.long)).sum ↔ ∃ m ∈ ats j, 0 < Lx.wayT ats n k (j + m.long) := by
        generalize ats j = l
        induction l with
        | nil => simp
        | cons a r ih =>
          rw [List.map_cons, List.sum_cons]
          constructor
          · intro h
            by_cases ha : 0 < Lx.wayT ats n k (j + a.long)
            · exact ⟨a, by simp, ha⟩
            · obtain ⟨m, hm, h0⟩ := ih.1 (by omega)
              exact ⟨m, by simp [hm], h0⟩
          · rintro ⟨m, hm, h0⟩
            rcases List.mem_cons.1 hm with e | hm
            · rw [← e]; omega
            · have := ih.2 ⟨m, hm, h0⟩
              omega
      rw [← hs]
      omega
    · rw [if_neg hj]
      exact Lx.way_path hat k (by omega) j (by omega) h2
theorem Lx.reach_path1 : ∀ i j, Lx.reachT ats i j = true → Lx.Path ats 0 j
  | 0, j, h => by
    unfold Lx.reachT at h
    have := of_decide_eq_true h
    subst this
    exact .refl _
  | i + 1, j, h => by
    unfold Lx.reachT at h
    rw [Bool.or_eq_true, Bool.and_eq_true, List.any_eq_true] at h
    rcases h with h | ⟨h1, m, hm, h2⟩
    · exact Lx.reach_path1 i j h
    · have := of_decide_eq_true h2
      subst this
      exact (Lx.reach_path1 i i h1).snoc hm
theorem Lx.reach_mono {j : Nat} : ∀ {i i' : Nat}, i ≤ i' → Lx.reachT ats i j = true → Lx.reachT ats i' j = true
  | i, 0, h, hr => by
    have : i = 0 := by omega
    subst this
    exact hr
  | i, i' + 1, h, hr => by
    by_cases e : i = i' + 1
    · subst e; exact hr
    · unfold Lx.reachT
      rw [Lx.reach_mono (by omega : i ≤ i') hr]
      rfl
theorem Lx.reach_path2 (hat : ∀ i, i < n → ∀ m ∈ ats i, 1 ≤ m.long ∧ i + m.long ≤ n) {a b : Nat} (hp : Lx.Path ats a b) : b = n → a ≤ n → Lx.reachT ats a a = true → Lx.reachT ats b b = true := by
  induction hp with
  | refl i => intro _ _ h; exact h
  | @step i j m hm hp ih =>
    intro hb ha hr
    by_cases hin : i < n
    · have hh := hat i hin m hm
      refine ih hb hh.2 (Lx.reach_mono (i := i + 1) (by omega) ?_)
      unfold Lx.reachT
      rw [Bool.or_eq_true]
      right
      rw [hr, Bool.true_and, List.any_eq_true]
      exact ⟨m, hm, by simp⟩
    · have : i = j := by omega
      rw [← this]; exact hr
theorem Lx.ways_reach (hn : 1 ≤ n) (hat : ∀ i, i < n → ∀ m ∈ ats i, 1 ≤ m.long ∧ i + m.long ≤ n) : 0 < Lx.wayT ats n n 0 ↔ Lx.farT (Lx.reachT ats n) n = n := by
  rw [Lx.way_path hat n (Nat.le_refl _) 0 (by omega) (Nat.zero_le _)]
  have h1 : Lx.Path ats 0 n ↔ Lx.reachT ats n n = true := ⟨fun h => Lx.reach_path2 hat h rfl (Nat.zero_le _) rfl, fun h => Lx.reach_path1 _ _ h⟩
  rw [h1]
  obtain ⟨k, rfl⟩ : ∃ k, n = k + 1 := ⟨n - 1, by omega⟩
  rw [Lx.farT.eq_def]
  simp only
  constructor
  · intro h; rw [if_pos h]
  · intro h
    by_cases hr : Lx.reachT ats (k + 1) (k + 1) = true
    · exact hr
    · rw [if_neg hr] at h
      have := Lx.farT_le (Lx.reachT ats (k + 1)) k
      omega
end path

section said
theorem Lx.saidC_append (x : Lx.Lexicon) (c : Int) (g : Lx.Clitic) (hg : x.clitics[c.toNat]? = some g) : ∀ (l : List Int) (t : ByteArray), Lx.saidC x (l ++ [c]) t = Lx.saidC x l t ++ g.text
  | [], t => by simp [Lx.saidC, hg]
  | a :: r, t => by
    simp only [List.cons_append, Lx.saidC]
    split
    · exact Lx.saidC_append x c g hg r _
    · exact Lx.saidC_append x c g hg r _
theorem Lx.clitOK_append {n c : Int} (hc : c < n) : ∀ (l : List Int) (last : Int), Lx.clitOK n last l = true → last < c → (∀ a ∈ l, a < c) → Lx.clitOK n last (l ++ [c]) = true
  | [], last, _, h, _ => by simp [Lx.clitOK, h, hc]
  | a :: r, last, h, _, ha => by
    simp only [Lx.clitOK, Bool.and_eq_true, List.cons_append] at h ⊢
    exact ⟨h.1, h.2.1, Lx.clitOK_append hc r a h.2.2 (ha a (by simp)) (fun b hb => ha b (by simp [hb]))⟩
theorem Lx.pre_take {s : ByteArray} {k : Nat} {p : ByteArray} (h : Lx.pre s k p = true) : s.data.toList.take k ++ p.data.toList = s.data.toList.take (k + p.size) := by
  unfold Lx.pre at h
  have h1 := List.prefix_iff_eq_take.1 (List.isPrefixOf_iff_prefix.1 h)
  rw [List.take_add]
  congr 1
/-- a match is a valid form, and its sounds begin the line -/
structure Lx.MSaid (x : Lx.Lexicon) (s : ByteArray) (first : Nat) (m : Lx.Match) : Prop where
  said : (Lx.saidV x m.form).data.toList = s.data.toList.take m.long
  ok : Lx.formV x m.form = 0
  low : ∀ c ∈ m.clitics, c < (first : Int)
theorem Lx.leanF_said {x : Lx.Lexicon} {s : ByteArray} : ∀ (fuel : Nat) (m : Lx.Match) (first : Nat), Lx.MSaid x s first m → ∀ m' ∈ Lx.leanF x s fuel m first, (Lx.saidV x m'.form).data.toList = s.data.toList.take m'.long ∧ Lx.formV x m'.form = 0
  | 0, m, first, h, m', hm => by simp [Lx.leanF] at hm; subst hm; exact ⟨h.said, h.ok⟩
  | fuel + 1, m, first, h, m', hm => by
    unfold Lx.leanF at hm
    rw [List.mem_cons] at hm
    rcases hm with rfl | hm
    · exact ⟨h.said, h.ok⟩
    · split at hm
      · simp at hm
      · rename_i h3
        rw [List.mem_flatMap] at hm
        obtain ⟨c, hcr, hm⟩ := hm
        rw [List.mem_range'_1] at hcr
        split at hm
        · rename_i g hg
          split at hm
          · rename_i hp
            refine Lx.leanF_said fuel _ _ ⟨?_, ?_, ?_⟩ m' hm
            · show (Lx.saidC x (m.clitics ++ [(c : Int)]) (Lx.stemV x ⟨m.entry, m.ending, m.clitics ++ [(c : Int)]⟩)).data.toList = _
              rw [Lx.saidC_append x (c : Int) g (by simpa using hg)]
              have e : Lx.saidC x m.clitics (Lx.stemV x ⟨m.entry, m.ending, m.clitics ++ [(c : Int)]⟩) = Lx.saidV x m.form := rfl
              rw [e, ByteArray.data_append, Array.toList_append, h.said]
              exact Lx.pre_take hp
            · have hv := Lx.valid_of h.ok
              have ho := h.ok
              have hcl : c < x.clitics.length := (List.getElem?_eq_some_iff.1 hg).1
              unfold Lx.formV at ho ⊢
              rw [if_neg (by simp [hv.chk])] at ho ⊢
              have hw : Lx.withinB m.form.entry 0 ((x.entries.length : Int) - 1) = true := by
                cases q : Lx.withinB m.form.entry 0 ((x.entries.length : Int) - 1)
                · rw [if_pos q] at ho; cases ho
                · rfl
              rw [if_neg (by rw [hw]; simp)] at ho
              have he : Lx.endOK x m.form = true := by
                cases q : Lx.endOK x m.form
                · rw [if_pos q] at ho; cases ho
                · rfl
              rw [if_neg (by rw [he]; simp), if_neg (by have := hv.few; omega)] at ho
              have hco : Lx.clitOK x.clitics.length (-1) m.form.clitics = true := by
                cases q : Lx.clitOK x.clitics.length (-1) m.form.clitics
                · rw [if_pos q] at ho; cases ho
                · rfl
              rw [if_neg (by show ¬ Lx.withinB m.form.entry 0 ((x.entries.length : Int) - 1) = false; rw [hw]; simp), if_neg (by show ¬ Lx.endOK x m.form = false; rw [he]; simp),
                if_neg (by show ¬ 3 < (m.clitics ++ [(c : Int)]).length; have := hv.few; rw [List.length_append, List.length_singleton]; simp only [Lx.Match.form] at this; omega)]
              rw [if_neg]
              show ¬ Lx.clitOK x.clitics.length (-1) (m.clitics ++ [(c : Int)]) = false
              rw [Lx.clitOK_append (by omega) m.clitics (-1) hco (by omega) (fun a ha => by have := h.low a ha; omega)]
              simp
            · intro a ha
              have ha' : a ∈ m.clitics ++ [(c : Int)] := ha
              rw [List.mem_append, List.mem_singleton] at ha'
              rcases ha' with q | q
              · have := h.low a q; omega
              · omega
          · simp at hm
        · simp at hm
theorem Lx.matchesV_said {x : Lx.Lexicon} {s : ByteArray} (hc : Lx.checkV x = 0) : ∀ m ∈ Lx.matchesV x s, (Lx.saidV x m.form).data.toList = s.data.toList.take m.long ∧ Lx.formV x m.form = 0 := by
  intro m hm
  unfold Lx.matchesV Lx.matchesN at hm
  rw [List.mem_flatMap] at hm
  obtain ⟨i, hi, hm⟩ := hm
  rw [List.mem_range] at hi
  unfold Lx.matchesE at hm
  split at hm
  · rename_i e he
    split at hm
    · unfold Lx.matchesTo at hm
      rw [List.mem_flatMap] at hm
      obtain ⟨q, hq, hm⟩ := hm
      rw [List.mem_range] at hq
      unfold Lx.matchesQ at hm
      split at hm
      · simp at hm
      · rename_i hsk
        split at hm
        · rename_i hp
          refine Lx.leanF_said 3 _ 0 ⟨?_, ?_, fun c hc => by simp at hc⟩ m hm
          · have e2 := Lx.pre_take hp
            rw [List.take_zero, List.nil_append, Nat.zero_add] at e2
            exact e2
          · refine Lx.formV_0 hc (Lx.within_iff.2 ⟨?_, ?_⟩) ?_ (by simp [Lx.Match.form]) rfl
            · show (0 : Int) ≤ (i : Int); omega
            · show (i : Int) ≤ (x.entries.length : Int) - 1; omega
            · by_cases hq0 : q = 0
              · subst hq0
                exact Lx.endOK_none rfl
              · have hql : q - 1 < x.endings.length := by omega
                have hsk' : Lx.skipB x e q = false := by simpa using hsk
                unfold Lx.skipB at hsk'
                rw [show decide (0 < q) = true by simp; omega, Bool.true_and, List.getElem?_eq_getElem hql] at hsk'
                have hk : x.endings[q - 1].kind = e.kind := by simpa using hsk'
                have e1 : ((q : Int) - 1).toNat = q - 1 := by omega
                rw [Lx.endOK_in (g := x.endings[q - 1]) (e := e) (by show ¬ (q : Int) - 1 = -1; omega) (Lx.within_iff.2 ⟨by show (0 : Int) ≤ (q : Int) - 1; omega, by show (q : Int) - 1 ≤ (x.endings.length : Int) - 1; omega⟩)
                  (by show x.endings[((q : Int) - 1).toNat]? = _; rw [e1]; exact List.getElem?_eq_getElem hql) (by show x.entries[((i : Nat) : Int).toNat]? = _; simpa using he)]
                simpa using hk
        · simp at hm
    · simp at hm
  · simp at hm
end said

section alike
theorem Lx.leanF_keeps {x : Lx.Lexicon} {s : ByteArray} : ∀ (fuel : Nat) (m : Lx.Match) (first : Nat), ∀ m' ∈ Lx.leanF x s fuel m first, m'.entry = m.entry ∧ m'.ending = m.ending ∧ m.clitics <+: m'.clitics
  | 0, m, first, m', hm => by simp [Lx.leanF] at hm; subst hm; exact ⟨rfl, rfl, List.prefix_refl _⟩
  | fuel + 1, m, first, m', hm => by
    unfold Lx.leanF at hm
    rw [List.mem_cons] at hm
    rcases hm with rfl | hm
    · exact ⟨rfl, rfl, List.prefix_refl _⟩
    · split at hm
      · simp at hm
      · rw [List.mem_flatMap] at hm
        obtain ⟨c, _, hm⟩ := hm
        split at hm
        · split at hm
          · have h := Lx.leanF_keeps fuel _ _ m' hm
            exact ⟨h.1, h.2.1, (List.prefix_append _ _).trans h.2.2⟩
          · simp at hm
        · simp at hm
theorem Lx.leanC_keeps {x : Lx.Lexicon} {s : ByteArray} {k : Nat} {m : Lx.Match} {c : Nat} : ∀ m' ∈ Lx.leanC x s k m c, m.clitics ++ [(c : Int)] <+: m'.clitics := by
  intro m' hm
  unfold Lx.leanC at hm
  split at hm
  · split at hm
    · exact (Lx.leanF_keeps k _ _ m' hm).2.2
    · simp at hm
  · simp at hm
abbrev Lx.Other (a b : Lx.Match) : Prop := a.form ≠ b.form
theorem Lx.leanF_other {x : Lx.Lexicon} {s : ByteArray} : ∀ (fuel : Nat) (m : Lx.Match) (first : Nat), (Lx.leanF x s fuel m first).Pairwise Lx.Other
  | 0, m, first => by simp [Lx.leanF]
  | fuel + 1, m, first => by
    by_cases h3 : m.clitics.length = 3
    · unfold Lx.leanF
      rw [if_pos h3]
      exact List.pairwise_singleton _ _
    · rw [Lx.leanF_succ h3, List.pairwise_cons]
      refine ⟨fun m' hm e => ?_, List.pairwise_flatMap.2 ⟨fun c _ => ?_, ?_⟩⟩
      · rw [List.mem_flatMap] at hm
        obtain ⟨c, _, hm⟩ := hm
        have h := (Lx.leanC_keeps m' hm).length_le
        have e' : m.clitics = m'.clitics := congrArg Lx.Form.clitics e
        rw [← e', List.length_append, List.length_singleton] at h
        omega
      · unfold Lx.leanC
        split
        · split
          · exact Lx.leanF_other fuel _ _
          · exact List.Pairwise.nil
        · exact List.Pairwise.nil
      · refine (List.nodup_range' (step := 1)).imp fun {c d} hcd a ha b hb e => hcd ?_
        have e' : a.clitics = b.clitics := congrArg Lx.Form.clitics e
        obtain ⟨u, hu⟩ := Lx.leanC_keeps a ha
        obtain ⟨v, hv⟩ := Lx.leanC_keeps b hb
        rw [← e', ← hu, List.append_assoc, List.append_assoc] at hv
        have := List.append_cancel_left hv
        simp at this
        omega
theorem Lx.matchesV_other {x : Lx.Lexicon} {s : ByteArray} : (Lx.matchesV x s).Pairwise Lx.Other := by
  have hE : ∀ i, ∀ m ∈ Lx.matchesE x s i, m.entry = (i : Int) := fun i m hm => by
    unfold Lx.matchesE at hm
    split at hm
    · split at hm
      · unfold Lx.matchesTo at hm
        rw [List.mem_flatMap] at hm
        obtain ⟨q, _, hm⟩ := hm
        unfold Lx.matchesQ at hm
        split at hm
        · simp at hm
        · split at hm
          · exact (Lx.leanF_keeps _ _ _ m hm).1
          · simp at hm
      · simp at hm
    · simp at hm
  have hQ : ∀ i e q, ∀ m ∈ Lx.matchesQ x s i e q, m.ending = (q : Int) - 1 := fun i e q m hm => by
    unfold Lx.matchesQ at hm
    split at hm
    · simp at hm
    · split at hm
      · exact (Lx.leanF_keeps _ _ _ m hm).2.1
      · simp at hm
  unfold Lx.matchesV Lx.matchesN
  refine List.pairwise_flatMap.2 ⟨fun i _ => ?_, List.nodup_range.imp fun {i j} hij a ha b hb e => hij ?_⟩
  · unfold Lx.matchesE
    split
    · split
      · unfold Lx.matchesTo
        refine List.pairwise_flatMap.2 ⟨fun q _ => ?_, List.nodup_range.imp fun {q r} hqr a ha b hb e => hqr ?_⟩
        · unfold Lx.matchesQ
          split
          · exact List.Pairwise.nil
          · split
            · exact Lx.leanF_other _ _ _
            · exact List.Pairwise.nil
        · have e' : a.ending = b.ending := congrArg Lx.Form.ending e
          rw [hQ _ _ _ a ha, hQ _ _ _ b hb] at e'
          omega
      · exact List.Pairwise.nil
    · exact List.Pairwise.nil
  · have e' : a.entry = b.entry := congrArg Lx.Form.entry e
    rw [hE _ a ha, hE _ b hb] at e'
    omega
abbrev Lx.Diff (c d : Lx.Cut) : Prop := c.1 ≠ d.1
theorem Lx.fold_diff {most : Nat} {L : List Lx.Cut} (h : L.Pairwise Lx.Diff) : (L.foldl (Lx.putC most) []).Pairwise Lx.Diff := by
  have e := Lx.foldl_putC most L []
  rw [List.take_nil] at e
  rw [e]
  refine List.Pairwise.sublist (List.take_sublist _ _) ?_
  have hp := Lx.foldl_insC_perm L []
  rw [List.append_nil] at hp
  exact hp.symm.pairwise h fun q => Ne.symm q
theorem Lx.tab_diff {x : Lx.Lexicon} {most : Nat} {ats : Nat → List Lx.Match} {n : Nat} (ho : ∀ i, (ats i).Pairwise Lx.Other) : ∀ k j, ((Lx.tabT x (Lx.putT most) ats n k j).map Lx.cutOf).Pairwise Lx.Diff
  | 0, j => by
    unfold Lx.tabT
    split
    · exact List.pairwise_singleton _ _
    · exact List.Pairwise.nil
  | k + 1, j => by
    unfold Lx.tabT
    split
    · rw [Lx.map_addMs]
      refine Lx.fold_diff (List.pairwise_flatMap.2 ⟨fun m _ => ?_, (ho _).imp fun {a b} hab c hc d hd e => hab ?_⟩)
      · rw [List.pairwise_map]
        exact (Lx.tab_diff ho k _).imp fun {c d} hcd e => hcd (List.cons.inj e).2
      · obtain ⟨c', _, rfl⟩ := List.mem_map.1 hc
        obtain ⟨d', _, rfl⟩ := List.mem_map.1 hd
        exact (List.cons.inj e).1
    · exact Lx.tab_diff ho k j
end alike

section what
/-- the sounds of forms, and what they weigh -/
def Lx.saidAll (x : Lx.Lexicon) (l : List Lx.Form) : List UInt8 := l.flatMap fun f => (Lx.saidV x f).data.toList
def Lx.heavyAll (x : Lx.Lexicon) (l : List Lx.Form) : Int := (l.map (Lx.heavyV x)).sum
structure Lx.CutOK (x : Lx.Lexicon) (t : List UInt8) (c : Lx.Cut) : Prop where
  ok : ∀ f ∈ c.1, Lx.formV x f = 0
  said : Lx.saidAll x c.1 = t
  heavy : c.2 = Lx.heavyAll x c.1
theorem Lx.tab_said {x : Lx.Lexicon} {most : Nat} {ats : Nat → List Lx.Match} {n : Nat} {t : List UInt8} (hn : t.length = n)
    (hat : ∀ i, i < n → ∀ m ∈ ats i, 1 ≤ m.long ∧ i + m.long ≤ n ∧ (Lx.saidV x m.form).data.toList = (t.drop i).take m.long ∧ Lx.formV x m.form = 0) :
    ∀ k, k ≤ n → ∀ j, j ≤ n → ∀ u ∈ Lx.tabT x (Lx.putT most) ats n k j, Lx.CutOK x (t.drop j) (Lx.cutOf u)
  | 0, _, j, _, u, hu => by
    unfold Lx.tabT at hu
    split at hu
    · rename_i e
      simp at hu
      subst hu
      subst e
      exact ⟨fun f hf => by simp [Lx.cutOf] at hf, by rw [← hn, List.drop_length]; rfl, rfl⟩
    · simp at hu
  | k + 1, hk, j, hj, u, hu => by
    unfold Lx.tabT at hu
    split at hu
    · rename_i e
      have hlt : n - (k + 1) < n := by omega
      refine (Lx.addMs_inv (P := fun u => Lx.CutOK x (t.drop j) (Lx.cutOf u)) (fun m hm v hv => ?_)).2 u hu
      obtain ⟨h1, h2, h3, h4⟩ := hat _ hlt m hm
      have ih := Lx.tab_said hn hat k (by omega) _ h2 v hv
      rw [e]
      refine ⟨fun f hf => ?_, ?_, ?_⟩
      · have hf' : f ∈ m.form :: (Lx.cutOf v).1 := hf
        rcases List.mem_cons.1 hf' with q | q
        · rw [q]; exact h4
        · exact ih.ok f q
      · show (m.form :: (Lx.cutOf v).1).flatMap _ = _
        rw [List.flatMap_cons]
        have := ih.said
        unfold Lx.saidAll at this
        rw [this, h3, ← List.drop_drop, List.take_append_drop]
      · show Lx.heavyV x m.form + Lx.tw v = ((m.form :: (Lx.cutOf v).1).map (Lx.heavyV x)).sum
        rw [List.map_cons, List.sum_cons]
        have := ih.heavy
        unfold Lx.heavyAll at this
        rw [← this]
        rfl
    · exact Lx.tab_said hn hat k (by omega) j hj u hu
theorem Lx.tab_ascT {x : Lx.Lexicon} {most : Nat} {ats : Nat → List Lx.Match} {n : Nat} : ∀ k j, Lx.AscT (Lx.tabT x (Lx.putT most) ats n k j)
  | 0, j => by
    unfold Lx.tabT
    split
    · exact List.pairwise_singleton _ _
    · exact List.Pairwise.nil
  | k + 1, j => by
    unfold Lx.tabT
    split
    · exact (Lx.addMs_inv (P := fun _ => True) (fun _ _ _ _ => trivial)).1
    · exact Lx.tab_ascT k j
theorem Lx.rb_weight {c d : Lx.Cut} (h : Lx.rb d c = false) : c.2 ≤ d.2 := by
  unfold Lx.rb at h
  split at h
  · omega
  · have := of_decide_eq_false h
    omega
end what
end Go.Proofs.YtpmnpnlfgfleeaaGreatDoor
namespace Go.Proofs.YtpmnpnlfgfleeaaGreatDoor
open Go.RowKit

theorem flat_int (cs : List Int) : cs.flatMap encInt = cs.map (Value.int .i64) := by
  induction cs with
  | nil => rfl
  | cons c r ih => rw [List.flatMap_cons, List.map_cons, ih]; rfl

theorem cloneInt_any (v : Value) (cs : List Int) (w : World) (B : Nat) (h : RdS w B 1 encInt v cs) (hlen : cs.length ≤ 1000000) :
    Calls Tryz.prog 65 #[v] w (fun e w' => ∃ v', e = .returned v' ∧ w'.ownsRow w.heap.size 3 1 v' cs.length (cs.flatMap encInt) ∧ Below w.heap.size w w') := by
  obtain ⟨A, c, rfl, hl, hc, hh⟩ := h
  cases A with
  | none =>
    have h0 : cs = [] := by
      cases cs with
      | nil => rfl
      | cons y r =>
        obtain ⟨b, off, h, _⟩ := hh (by simp)
        cases h
    subst h0
    refine (Tryz.slices_Clone_int_nil _ _ w).mono ?_
    rintro e w' ⟨rfl, rfl⟩
    exact ⟨_, rfl, World.ownsRow_nil _ _ _ _, Below.refl _ _⟩
  | some a =>
    by_cases h0 : cs.length = 0
    · have h0' : cs = [] := List.eq_nil_of_length_eq_zero h0
      subst h0'
      refine (Tryz.slices_Clone_int_zero _ _ w).mono ?_
      rintro e w' ⟨v', rfl, hown, _, hb⟩
      exact ⟨_, rfl, hown, hb⟩
    · obtain ⟨b, off, hA, _, hcell⟩ := hh (by omega)
      cases hA
      refine (Tryz.slices_Clone_int b off cs.length c cs w (Nat.le_refl _) (by omega) (fun j hj => ?_)).mono ?_
      · have := hcell j cs[j] (List.getElem?_eq_getElem hj) 0 _ rfl
        rw [List.getD_eq_getElem?_getD, List.getElem?_eq_getElem hj]
        simpa using this
      · rintro e w' ⟨v', rfl, hown, _, hb⟩
        refine ⟨_, rfl, ?_, hb⟩
        rw [flat_int]
        simpa using hown
end Go.Proofs.YtpmnpnlfgfleeaaGreatDoor
