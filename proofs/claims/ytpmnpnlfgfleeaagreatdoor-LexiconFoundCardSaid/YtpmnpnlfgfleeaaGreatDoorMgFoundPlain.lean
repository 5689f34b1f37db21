/- Every valid form is among the matches of a line that its sounds begin: plain law. -/
import Derived.Test.YtpmnpnlfgfleeaaGreatDoorMgApart
import Derived.Test.YtpmnpnlfgfleeaaGreatDoorMgLeastF
import Derived.Test.YtpmnpnlfgfleeaaGreatDoorMgGlossLaw
namespace Go.Proofs.YtpmnpnlfgfleeaaGreatDoor
open Go.RowKit

def Lx.textC (x : Lx.Lexicon) (l : List Int) : List UInt8 := l.flatMap fun c => match x.clitics[c.toNat]? with
  | some g => g.text.data.toList
  | none => []
theorem Lx.textC_cons {x : Lx.Lexicon} {c : Int} {l : List Int} {g : Lx.Clitic} (h : x.clitics[c.toNat]? = some g) : Lx.textC x (c :: l) = g.text.data.toList ++ Lx.textC x l := by
  unfold Lx.textC
  rw [List.flatMap_cons]
  simp only [h]
theorem Lx.saidC_text (x : Lx.Lexicon) : ∀ (l : List Int) (t : ByteArray), (Lx.saidC x l t).data.toList = t.data.toList ++ Lx.textC x l
  | [], t => by simp [Lx.saidC, Lx.textC]
  | c :: r, t => by
    rw [Lx.saidC]
    cases hg : x.clitics[c.toNat]? with
    | none =>
      simp only
      rw [Lx.saidC_text x r t]
      unfold Lx.textC
      rw [List.flatMap_cons]
      simp only [hg, List.nil_append]
    | some g =>
      simp only
      rw [Lx.saidC_text x r, Lx.textC_cons hg]
      simp
theorem Lx.leanF_all {x : Lx.Lexicon} {s : ByteArray} : ∀ (r : List Int) (fuel : Nat) (m : Lx.Match) (first : Nat), r.length ≤ fuel → m.clitics.length + fuel = 3 →
    Lx.clitOK x.clitics.length ((first : Int) - 1) r = true → Lx.textC x r <+: s.data.toList.drop m.long → ⟨m.entry, m.ending, m.clitics ++ r, m.long + (Lx.textC x r).length⟩ ∈ Lx.leanF x s fuel m first
  | [], 0, m, first, _, _, _, _ => by simp [Lx.leanF, Lx.textC]
  | [], fuel + 1, m, first, _, _, _, _ => by
    unfold Lx.leanF
    simp [Lx.textC]
  | c :: r, 0, m, first, h, _, _, _ => by simp at h
  | c :: r, fuel + 1, m, first, h, h3, hok, hp => by
    rw [List.length_cons] at h
    simp only [Lx.clitOK, Bool.and_eq_true, decide_eq_true_eq] at hok
    obtain ⟨hc1, hc2, hr⟩ := hok
    obtain ⟨k, rfl⟩ : ∃ k : Nat, c = (k : Int) := ⟨c.toNat, by omega⟩
    have hk : k < x.clitics.length := by omega
    obtain ⟨g, hg⟩ : ∃ g, x.clitics[k]? = some g := ⟨_, List.getElem?_eq_getElem hk⟩
    have hg' : x.clitics[((k : Nat) : Int).toNat]? = some g := by simpa using hg
    rw [Lx.textC_cons hg'] at hp ⊢
    have hpre : Lx.pre s m.long g.text = true := by
      unfold Lx.pre
      rw [List.isPrefixOf_iff_prefix]
      exact (List.prefix_append _ _).trans hp
    have hdr : Lx.textC x r <+: s.data.toList.drop (m.long + g.text.size) := by
      rw [← List.drop_drop]
      obtain ⟨q, hq⟩ := hp
      rw [← hq, List.append_assoc]
      rw [show g.text.size = g.text.data.toList.length from rfl, List.drop_left]
      exact List.prefix_append _ _
    have ih := Lx.leanF_all r fuel ⟨m.entry, m.ending, m.clitics ++ [(k : Int)], m.long + g.text.size⟩ (k + 1) (by omega) (by simp; omega)
      (by rw [show (((k + 1 : Nat) : Int) - 1) = (k : Int) by omega]; exact hr) hdr
    rw [Lx.leanF_succ (by omega), List.mem_cons]
    right
    rw [List.mem_flatMap]
    refine ⟨k, by rw [List.mem_range'_1]; omega, ?_⟩
    unfold Lx.leanC
    rw [hg]
    simp only [hpre, if_true]
    rw [List.append_assoc] at ih
    have e : m.long + g.text.size + (Lx.textC x r).length = m.long + (g.text.data.toList ++ Lx.textC x r).length := by
      rw [List.length_append]
      show m.long + g.text.data.toList.length + _ = _
      omega
    simp only [e] at ih
    exact ih
theorem Lx.matchesV_all {x : Lx.Lexicon} {s : ByteArray} {f : Lx.Form} (hf : Lx.formV x f = 0) (hp : (Lx.saidV x f).data.toList <+: s.data.toList) : ⟨f.entry, f.ending, f.clitics, (Lx.saidV x f).size⟩ ∈ Lx.matchesV x s := by
  obtain ⟨hchk, h1, h2, h3, h4⟩ := Lx.form_pieces hf
  have hv := Lx.valid_of hf
  obtain ⟨he0, he1⟩ := hv.ent
  obtain ⟨i, hi⟩ : ∃ i : Nat, f.entry = (i : Int) := ⟨f.entry.toNat, by omega⟩
  obtain ⟨p, hpE⟩ : ∃ p : Nat, f.ending = (p : Int) - 1 := ⟨(f.ending + 1).toNat, by have := hv.fin; omega⟩
  have hpl : p ≤ x.endings.length := by have := hv.fin; omega
  obtain ⟨e, he⟩ : ∃ e, x.entries[i]? = some e := ⟨_, List.getElem?_eq_getElem (by omega)⟩
  have hst : Lx.stemV x f = Lx.stemV x ⟨(i : Int), (p : Int) - 1, []⟩ := by unfold Lx.stemV; simp only [hi, hpE]
  have hsaid : (Lx.saidV x f).data.toList = (Lx.stemV x f).data.toList ++ Lx.textC x f.clitics := Lx.saidC_text x _ _
  have hstp : (Lx.stemV x f).data.toList <+: s.data.toList := by rw [hsaid] at hp; exact (List.prefix_append _ _).trans hp
  have hroot : e.root.data.toList <+: (Lx.stemV x f).data.toList := by
    unfold Lx.stemV
    rw [hi, Int.toNat_natCast, he]
    simp only
    split
    · exact List.prefix_refl _
    · split
      · rw [ByteArray.data_append, Array.toList_append]; exact List.prefix_append _ _
      · exact List.prefix_refl _
  unfold Lx.matchesV Lx.matchesN
  rw [List.mem_flatMap]
  refine ⟨i, by rw [List.mem_range]; omega, ?_⟩
  rw [Lx.matchesE_yes he (by unfold Lx.pre; rw [List.isPrefixOf_iff_prefix, List.drop_zero]; exact hroot.trans hstp)]
  unfold Lx.matchesTo
  rw [List.mem_flatMap]
  refine ⟨p, by rw [List.mem_range]; omega, ?_⟩
  have hskip : Lx.skipB x e p = false := by
    unfold Lx.skipB
    by_cases hp0 : p = 0
    · subst hp0; rfl
    · have hin := h2
      obtain ⟨g, hg⟩ : ∃ g, x.endings[p - 1]? = some g := ⟨_, List.getElem?_eq_getElem (by omega)⟩
      have hgt : x.endings[f.ending.toNat]? = some g := by rw [show f.ending.toNat = p - 1 by omega]; exact hg
      rw [Lx.endOK_in (by omega) (Lx.within_iff.2 ⟨by omega, by omega⟩) hgt (by rw [hi, Int.toNat_natCast]; exact he)] at hin
      rw [hg]
      have hin := of_decide_eq_true hin
      simp [hin]
  unfold Lx.matchesQ
  rw [if_neg (by rw [hskip]; simp), if_pos (by unfold Lx.pre; rw [List.isPrefixOf_iff_prefix, List.drop_zero, ← hst]; exact hstp)]
  have hl := Lx.leanF_all (x := x) (s := s) f.clitics 3 ⟨(i : Int), (p : Int) - 1, [], (Lx.stemV x ⟨(i : Int), (p : Int) - 1, []⟩).size⟩ 0 hv.few (by simp)
    (by simpa using h4) (by
      rw [hsaid] at hp
      obtain ⟨q, hq⟩ := hp
      rw [← hq, List.append_assoc, ← hst]
      show _ <+: List.drop (Lx.stemV x f).data.toList.length _
      rw [List.drop_left]
      exact List.prefix_append _ _)
  simp only [List.nil_append] at hl
  have e2 : (Lx.stemV x ⟨(i : Int), (p : Int) - 1, []⟩).size + (Lx.textC x f.clitics).length = (Lx.saidV x f).size := by
    rw [← hst]
    show (Lx.stemV x f).data.toList.length + _ = (Lx.saidV x f).data.toList.length
    rw [hsaid, List.length_append]
  rw [e2] at hl
  rw [hi, hpE]
  exact hl
/-- what the law asks of a valid form -/
structure Lx.Found (x : Lx.Lexicon) (f : Lx.Form) (s : ByteArray) : Prop where
  sp : Lx.speechV x s = 0
  mem : f ∈ Lx.withV x s
  ok : Lx.withN x s = 0 ∨ Lx.withN x s = 2
  all : Lx.withN x s = 0 → Lx.withR x s = Lx.withV x s
  least : Lx.leastN x s = 0
  valid : Lx.formV x (Lx.leastR x s) = 0
  light : Lx.heavyV x (Lx.leastR x s) ≤ Lx.heavyV x f
  ways : 1 ≤ Lx.wayT (Lx.ats x s) s.size s.size 0
theorem Lx.saidV_all {x : Lx.Lexicon} {f : Lx.Form} (hf : Lx.formV x f = 0) : 1 ≤ (Lx.saidV x f).size ∧ (Lx.saidV x f).size ≤ 24 ∧ Lx.allL (Lx.saidV x f) = true := by
  have hv := Lx.valid_of hf
  have hp := Lx.check_parts hv.chk
  obtain ⟨e, he⟩ : ∃ e, x.entries[f.entry.toNat]? = some e := ⟨_, List.getElem?_eq_getElem (by have := hv.ent; omega)⟩
  obtain ⟨r1, r2, _, _, _, _, _, r8⟩ := Lx.ok_entry (Lx.good_at hp.2.1 he)
  have hs : 1 ≤ (Lx.stemV x f).size ∧ (Lx.stemV x f).size ≤ 12 ∧ Lx.allL (Lx.stemV x f) = true := by
    refine ⟨?_, stemV_size hv.chk, ?_⟩
    · unfold Lx.stemV
      rw [he]
      simp only
      split
      · exact r1
      · split
        · rw [ByteArray.size_append]; omega
        · exact r1
    · unfold Lx.stemV
      rw [he]
      simp only
      split
      · exact r8
      · split
        · rename_i g hg
          have := (Lx.ok_ending (Lx.good_at hp.2.2.1 hg)).2.2.2.2.2.1
          unfold Lx.allL at this r8 ⊢
          rw [ByteArray.data_append, Array.toList_append, List.all_append, r8, this]
          rfl
        · exact r8
  have key : ∀ (l : List Int) (t : ByteArray), 1 ≤ t.size → Lx.allL t = true → (∀ c ∈ l, 0 ≤ c ∧ c < (x.clitics.length : Int)) → 1 ≤ (Lx.saidC x l t).size ∧ (Lx.saidC x l t).size ≤ t.size + 4 * l.length ∧ Lx.allL (Lx.saidC x l t) = true := by
    intro l
    induction l with
    | nil => intro t h1 h2 _; exact ⟨h1, by simp [Lx.saidC], h2⟩
    | cons c r ih =>
      intro t h1 h2 hc
      rw [Lx.saidC]
      have hcc := hc c (by simp)
      obtain ⟨g, hg⟩ : ∃ g, x.clitics[c.toNat]? = some g := ⟨_, List.getElem?_eq_getElem (by omega)⟩
      rw [hg]
      simp only
      have hok := Lx.ok_clitic (Lx.good_at hp.2.2.2 hg)
      have h3 := ih (t ++ g.text) (by rw [ByteArray.size_append]; omega) (by
        have := hok.2.2.2.2.2.1
        unfold Lx.allL at this h2 ⊢
        rw [ByteArray.data_append, Array.toList_append, List.all_append, h2, this]
        rfl) (fun d hd => hc d (by simp [hd]))
      rw [ByteArray.size_append] at h3
      rw [List.length_cons]
      exact ⟨h3.1, by have := hok.2.1; omega, h3.2.2⟩
  have h := key f.clitics (Lx.stemV x f) hs.1 hs.2.2 (Lx.mem_at hv.cl)
  have := hv.few
  exact ⟨h.1, by unfold Lx.saidV; omega, h.2.2⟩
theorem Lx.leastL_le {x : Lx.Lexicon} : ∀ (l : List Lx.Form) (b : Lx.Form), Lx.heavyV x (Lx.leastL x b l) ≤ Lx.heavyV x b ∧ ∀ g ∈ l, Lx.heavyV x (Lx.leastL x b l) ≤ Lx.heavyV x g
  | [], b => ⟨Int.le_refl _, fun g hg => by simp at hg⟩
  | a :: r, b => by
    have h := Lx.leastL_le (x := x) r (Lx.lighter x b a)
    have hl : Lx.heavyV x (Lx.lighter x b a) ≤ Lx.heavyV x b ∧ Lx.heavyV x (Lx.lighter x b a) ≤ Lx.heavyV x a := by
      unfold Lx.lighter
      split
      · rename_i q; exact ⟨by omega, Int.le_refl _⟩
      · rename_i q; exact ⟨Int.le_refl _, by omega⟩
    have e : Lx.leastL x b (a :: r) = Lx.leastL x (Lx.lighter x b a) r := rfl
    rw [e]
    refine ⟨Int.le_trans h.1 hl.1, fun g hg => ?_⟩
    rcases List.mem_cons.1 hg with rfl | hg
    · exact Int.le_trans h.1 hl.2
    · exact h.2 g hg
theorem Lx.found {x : Lx.Lexicon} {f : Lx.Form} (hf : Lx.formV x f = 0) : Lx.Found x f (Lx.saidV x f) := by
  have hv := Lx.valid_of hf
  obtain ⟨h1, h2, h3⟩ := Lx.saidV_all hf
  have hsp : Lx.speechV x (Lx.saidV x f) = 0 := by
    unfold Lx.speechV
    rw [if_neg (by simp [hv.chk])]
    have : Lx.soundsB (Lx.saidV x f) 64 = true := by
      unfold Lx.soundsB
      simp only [Bool.and_eq_true, decide_eq_true_eq]
      exact ⟨⟨h1, by omega⟩, h3⟩
    rw [this]
    rfl
  have hm := Lx.matchesV_all hf (List.prefix_refl (Lx.saidV x f).data.toList)
  have hmem : f ∈ Lx.withV x (Lx.saidV x f) := by
    unfold Lx.withV Lx.withL
    rw [List.mem_map]
    exact ⟨_, List.mem_filter.2 ⟨hm, by simp⟩, rfl⟩
  have hvalid : ∀ g ∈ Lx.withV x (Lx.saidV x f), Lx.formV x g = 0 := by
    intro g hg
    unfold Lx.withV Lx.withL at hg
    rw [List.mem_map] at hg
    obtain ⟨m, hm, rfl⟩ := hg
    exact (Lx.matchesV_said hv.chk m (List.mem_filter.1 hm).1).2
  cases hW : Lx.withV x (Lx.saidV x f) with
  | nil => rw [hW] at hmem; simp at hmem
  | cons f0 r =>
    obtain ⟨g1, g2⟩ := Lx.leastN_good hsp hW
    have hml := Lx.leastL_le (x := x) r f0
    refine ⟨hsp, hmem, ?_, fun h => ?_, g1, ?_, ?_, ?_⟩
    · by_cases hl : 1000 < (Lx.withV x (Lx.saidV x f)).length
      · exact .inr (Lx.withN_many hsp hl).1
      · exact .inl (Lx.withN_good hsp hl).1
    · by_cases hl : 1000 < (Lx.withV x (Lx.saidV x f)).length
      · have := (Lx.withN_many hsp hl).1
        rw [h] at this
        cases this
      · exact (Lx.withN_good hsp hl).2
    · rw [g2]
      refine hvalid _ ?_
      rw [hW]
      rcases Lx.leastL_mem (x := x) r f0 with q | q
      · rw [q]; simp
      · simp [q]
    · rw [g2]
      rw [hW] at hmem
      rcases List.mem_cons.1 hmem with q | q
      · rw [q]; exact hml.1
      · exact hml.2 f q
    · have hat := Lx.ats_said (s := Lx.saidV x f) hv.chk
      refine (Lx.way_path (fun i hi m hm => ⟨(hat i hi m hm).1, (hat i hi m hm).2.1⟩) (Lx.saidV x f).size (Nat.le_refl _) 0 (by omega) (by omega)).2 ?_
      refine .step ⟨f.entry, f.ending, f.clitics, (Lx.saidV x f).size⟩ ?_ ?_
      · unfold Lx.ats
        rw [show (Lx.saidV x f).extract 0 (Lx.saidV x f).size = Lx.saidV x f from ByteArray.extract_zero_size]
        exact hm
      · simp only [Nat.zero_add]
        exact .refl _
end Go.Proofs.YtpmnpnlfgfleeaaGreatDoor
