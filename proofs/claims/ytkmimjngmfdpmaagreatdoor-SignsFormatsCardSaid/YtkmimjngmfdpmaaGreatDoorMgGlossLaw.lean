/- Glosses can be read back: plain law. -/
import Derived.Test.YtkmimjngmfdpmaaGreatDoorMgGlossPlain
import Derived.Lib.Split
namespace Lx
open Go

theorem index_byte {c : UInt8} (b : List UInt8) : ∀ {a : List UInt8}, c ∉ a → Lib.index (a ++ c :: b) [c] = (a.length : Int)
  | [], _ => by simp [Lib.index]
  | x :: l, h => by
    have hx : ¬ c = x := fun e => h (by simp [e])
    have ih := index_byte (c := c) b (a := l) (fun q => h (List.mem_cons_of_mem _ q))
    rw [List.cons_append, Lib.index, ih, if_neg (by simp [hx]), if_neg (by rw [beq_iff_eq]; omega)]
    simp
theorem index_byte_none {c : UInt8} : ∀ {a : List UInt8}, c ∉ a → Lib.index a [c] = -1
  | [], _ => by simp [Lib.index]
  | x :: l, h => by
    have hx : ¬ c = x := fun e => h (by simp [e])
    rw [Lib.index, index_byte_none (c := c) (a := l) (fun q => h (List.mem_cons_of_mem _ q)), if_neg (by simp [hx])]
    rfl
theorem split_byte {c : UInt8} : ∀ (ws : List (List UInt8)) (a : List UInt8), c ∉ a → (∀ w ∈ ws, c ∉ w) → Lib.split (a ++ ws.flatMap (c :: ·)) [c] = a :: ws
  | [], a, ha, _ => by
    have e : a ++ ([] : List (List UInt8)).flatMap (c :: ·) = a := by simp
    rw [e]
    unfold Lib.split
    rw [Lib.count_miss (index_byte_none ha)]
    rfl
  | w :: ws, a, ha, hw => by
    have e : a ++ (w :: ws).flatMap (c :: ·) = a ++ c :: (w ++ ws.flatMap (c :: ·)) := by simp
    rw [e]
    have hi := index_byte (w ++ ws.flatMap (c :: ·)) ha
    have ed : (a ++ c :: (w ++ ws.flatMap (c :: ·))).drop (a.length + [c].length) = w ++ ws.flatMap (c :: ·) := by
      rw [List.length_singleton, ← List.drop_drop, List.drop_left]
      rfl
    have ih := split_byte ws w (hw w (by simp)) (fun v hv => hw v (by simp [hv]))
    unfold Lib.split at ih ⊢
    rw [Lib.count_hit (by simp) hi, ed, Nat.add_comm, Lib.splitK, hi, if_neg (by rw [beq_iff_eq]; omega)]
    simp only [Int.toNat_natCast, Nat.add_zero]
    rw [ed, ih, List.take_left]
theorem cut_byte {c : UInt8} {a : List UInt8} (b : List UInt8) (h : c ∉ a) : Lib.cut (a ++ c :: b) [c] = (a, b, true) := by
  have hi := index_byte b h
  unfold Lib.cut
  rw [hi, if_pos (by omega)]
  simp only [Int.toNat_natCast, List.length_singleton]
  rw [List.take_left, ← List.drop_drop, List.drop_left]
  rfl
theorem cut_byte_none {c : UInt8} {a : List UInt8} (h : c ∉ a) : Lib.cut a [c] = (a, [], false) := by
  unfold Lib.cut
  rw [index_byte_none h, if_neg (by omega)]

/-- the parts of a gloss -/
def headL (e : Entry) : List UInt8 := (glossHead e).data.toList
def endL (x : Lexicon) (p : Int) : List UInt8 := if p < 0 then [] else match x.endings[p.toNat]? with
  | some g => 45 :: g.name.data.toList
  | none => []
def clitN (x : Lexicon) (c : Int) : List UInt8 := match x.clitics[c.toNat]? with
  | some g => g.name.data.toList
  | none => []
def clitL (x : Lexicon) (l : List Int) : List UInt8 := (l.map (clitN x)).flatMap (61 :: ·)
theorem clitL_append (x : Lexicon) (a b : List Int) : clitL x (a ++ b) = clitL x a ++ clitL x b := by simp [clitL]
theorem clitL_cons (x : Lexicon) (c : Int) (l : List Int) : clitL x (c :: l) = 61 :: (clitN x c ++ clitL x l) := by simp [clitL]
theorem glossClit_list {x : Lexicon} : ∀ (l : List Int) (t : ByteArray), (∀ c ∈ l, 0 ≤ c ∧ c < (x.clitics.length : Int)) → (glossClit x l t).data.toList = t.data.toList ++ clitL x l
  | [], t, _ => by simp [glossClit, clitL]
  | c :: r, t, h => by
    obtain ⟨g, hg⟩ : ∃ g, x.clitics[c.toNat]? = some g := ⟨_, List.getElem?_eq_getElem (by have := h c (by simp); omega)⟩
    rw [glossClit, hg, glossClit_list r _ (fun d hd => h d (by simp [hd])), clitL_cons]
    have : clitN x c = g.name.data.toList := by unfold clitN; rw [hg]
    rw [this]
    simp
theorem glossEnd_list {x : Lexicon} {f : Form} {t : ByteArray} : (glossEnd x f t).data.toList = t.data.toList ++ endL x f.ending := by
  unfold glossEnd endL
  by_cases h : f.ending < 0
  · rw [if_pos h, if_pos h, List.append_nil]
  · rw [if_neg h, if_neg h]
    cases x.endings[f.ending.toNat]? with
    | none => simp
    | some g => simp
theorem mem_at {l : List Int} {P : Int → Prop} (h : ∀ (k : Nat) (c : Int), l[k]? = some c → P c) : ∀ c ∈ l, P c := fun c hc => by
  obtain ⟨k, hk⟩ := List.getElem?_of_mem hc
  exact h k c hk
theorem gloss_list {x : Lexicon} {f : Form} (hf : formV x f = 0) {e : Entry} (he : x.entries[f.entry.toNat]? = some e) : (glossV x f).data.toList = headL e ++ endL x f.ending ++ clitL x f.clitics := by
  unfold glossV
  rw [he]
  simp only
  rw [glossClit_list _ _ (mem_at (valid_of hf).cl), glossEnd_list]
  rfl
theorem gloss_bare {x : Lexicon} {e : Entry} {i : Nat} (he : x.entries[i]? = some e) : glossV x ⟨(i : Int), -1, []⟩ = glossHead e := by
  unfold glossV
  simp only [Int.toNat_natCast, he]
  rfl

theorem letter_not {c : UInt8} {l : List UInt8} (h : l.all letter = true) (hc : letter c = false) : c ∉ l := fun hm => by
  have := List.all_eq_true.1 h c hm
  rw [hc] at this
  cases this
theorem small_not {c : UInt8} {l : List UInt8} (h : l.all small = true) (hc : small c = false) : c ∉ l := fun hm => by
  have := List.all_eq_true.1 h c hm
  rw [hc] at this
  cases this
theorem ok_entry' {e : Entry} (h : e.ok = true) : e.root.data.toList.all letter = true ∧ (e.cls.data.toList = [] ∨ (e.cls.data.toList ≠ [] ∧ e.cls.data.toList.all small = true)) ∧ 1 ≤ e.kind ∧ e.kind ≤ 9 := by
  simp only [Entry.ok, soundsB, nameB, withinB, Bool.and_eq_true, Bool.or_eq_true, decide_eq_true_eq] at h
  obtain ⟨⟨⟨⟨⟨h1, h2⟩, h2'⟩, h3⟩, h4⟩, h5⟩ := h
  refine ⟨h2', ?_, h3.1, h3.2⟩
  rcases h4 with h4 | h4
  · left
    rw [List.isEmpty_iff, Go.Lib.toList_data] at h4
    exact h4
  · by_cases q : e.cls.data.toList = []
    · exact .inl q
    · exact .inr ⟨q, h4.2⟩
theorem ok_name {e : Ending} (h : e.ok = true) : e.name.data.toList.all small = true := by
  have := (ok_ending h).2.2.2.2.2.2.1
  exact this
theorem ok_clit {e : Clitic} (h : e.ok = true) : e.name.data.toList.all small = true := (ok_clitic h).2.2.2.2.2.2
/-- the digit of a kind -/
def dig (k : Int) : UInt8 := UInt8.ofNat (48 + k.toNat)
theorem dec_dig {k : Int} (h : 1 ≤ k ∧ k ≤ 9) : Lib.decDigits k.toNat = [dig k] := by
  unfold Lib.decDigits
  rw [dif_pos (by omega)]
  rfl
theorem dig_cases {k : Int} (h : 1 ≤ k ∧ k ≤ 9) : k = 1 ∨ k = 2 ∨ k = 3 ∨ k = 4 ∨ k = 5 ∨ k = 6 ∨ k = 7 ∨ k = 8 ∨ k = 9 := by omega
theorem dig_not {k : Int} (h : 1 ≤ k ∧ k ≤ 9) : dig k ≠ 61 ∧ dig k ≠ 45 ∧ dig k ≠ 47 := by
  rcases dig_cases h with rfl | rfl | rfl | rfl | rfl | rfl | rfl | rfl | rfl <;> decide
theorem dig_inj {k m : Int} (h : 1 ≤ k ∧ k ≤ 9) (h' : 1 ≤ m ∧ m ≤ 9) (e : dig k = dig m) : k = m := by
  have q := congrArg UInt8.toNat e
  unfold dig at q
  simp only [UInt8.toNat_ofNat'] at q
  omega
theorem headL_eq {e : Entry} (h : e.ok = true) : headL e = e.root.data.toList ++ 47 :: dig e.kind :: (if e.cls.data.toList = [] then [] else 47 :: e.cls.data.toList) := by
  have hk := (ok_entry' h).2.2
  unfold headL glossHead
  simp only
  by_cases q : e.cls.data.toList = []
  · rw [if_pos (by rw [List.isEmpty_iff, Go.Lib.toList_data]; exact q), if_pos q]
    simp [dec_dig hk]
  · rw [if_neg (by rw [List.isEmpty_iff, Go.Lib.toList_data]; exact q), if_neg q]
    simp [dec_dig hk]
theorem headL_not {e : Entry} (h : e.ok = true) : 61 ∉ headL e ∧ 45 ∉ headL e := by
  obtain ⟨h1, h2, h3⟩ := ok_entry' h
  have hd := dig_not h3
  rw [headL_eq h]
  constructor
  · simp only [List.mem_append, List.mem_cons, not_or]
    refine ⟨letter_not h1 rfl, by decide, fun q => hd.1 q.symm, ?_⟩
    rcases h2 with h2 | h2
    · rw [if_pos h2]; simp
    · rw [if_neg h2.1]
      simp only [List.mem_cons, not_or]
      exact ⟨by decide, small_not h2.2 rfl⟩
  · simp only [List.mem_append, List.mem_cons, not_or]
    refine ⟨letter_not h1 rfl, by decide, fun q => hd.2.1 q.symm, ?_⟩
    rcases h2 with h2 | h2
    · rw [if_pos h2]; simp
    · rw [if_neg h2.1]
      simp only [List.mem_cons, not_or]
      exact ⟨by decide, small_not h2.2 rfl⟩
theorem toList_eq {a b : ByteArray} (h : a.data.toList = b.data.toList) : a.toList = b.toList := by
  rw [Go.Lib.toList_data, Go.Lib.toList_data, h]
theorem headL_inj {a b : Entry} (ha : a.ok = true) (hb : b.ok = true) (h : headL a = headL b) : Entry.same a b = true := by
  obtain ⟨a1, a2, a3⟩ := ok_entry' ha
  obtain ⟨b1, b2, b3⟩ := ok_entry' hb
  rw [headL_eq ha, headL_eq hb] at h
  have c1 := cut_byte (dig a.kind :: (if a.cls.data.toList = [] then [] else 47 :: a.cls.data.toList)) (letter_not a1 (c := 47) rfl)
  have c2 := cut_byte (dig b.kind :: (if b.cls.data.toList = [] then [] else 47 :: b.cls.data.toList)) (letter_not b1 (c := 47) rfl)
  rw [h, c2] at c1
  injection c1 with e1 e2
  injection e2 with e2 _
  injection e2 with e2 e3
  have ek := dig_inj a3 b3 e2.symm
  have ec : a.cls.data.toList = b.cls.data.toList := by
    by_cases q : a.cls.data.toList = []
    · by_cases r : b.cls.data.toList = []
      · rw [q, r]
      · rw [if_pos q, if_neg r] at e3; cases e3
    · by_cases r : b.cls.data.toList = []
      · rw [if_neg q, if_pos r] at e3; cases e3
      · rw [if_neg q, if_neg r] at e3; injection e3 with _ e3; exact e3.symm
  simp [Entry.same, ek, toList_eq e1.symm, toList_eq ec]
theorem good_uniq {α : Type} {ok : α → Bool} {same : α → α → Bool} {xs : List α} (h : good ok same xs = true) {i j : Nat} {a b : α} (hij : i < j) (ha : xs[i]? = some a) (hb : xs[j]? = some b) : same a b = false := by
  cases q : same a b
  · rfl
  · have := okAt_dup (ok := ok) hb hij ha q
    rw [not_good_of this] at h
    cases h
theorem entry_uniq {x : Lexicon} (h : checkV x = 0) {i j : Nat} {a b : Entry} (ha : x.entries[i]? = some a) (hb : x.entries[j]? = some b) (he : headL a = headL b) : i = j := by
  obtain ⟨_, h1, _, _⟩ := check_parts h
  have s1 := headL_inj (good_at h1 ha) (good_at h1 hb) he
  have s2 := headL_inj (good_at h1 hb) (good_at h1 ha) he.symm
  rcases Nat.lt_trichotomy i j with q | q | q
  · rw [good_uniq h1 q ha hb] at s1; cases s1
  · exact q
  · rw [good_uniq h1 q hb ha] at s2; cases s2
/-- the names of valid forms -/
theorem endL_cut {x : Lexicon} (a : List UInt8) (ha : 45 ∉ a) {p : Int} (hp : p = -1 ∨ (0 ≤ p ∧ p < x.endings.length)) :
    (p = -1 ∧ Lib.cut (a ++ endL x p) [45] = (a, [], false)) ∨ (0 ≤ p ∧ ∃ g, x.endings[p.toNat]? = some g ∧ Lib.cut (a ++ endL x p) [45] = (a, g.name.data.toList, true)) := by
  rcases hp with rfl | ⟨h0, h1⟩
  · left
    refine ⟨rfl, ?_⟩
    unfold endL
    rw [if_pos (by omega), List.append_nil]
    exact cut_byte_none ha
  · right
    obtain ⟨g, hg⟩ : ∃ g, x.endings[p.toNat]? = some g := ⟨_, List.getElem?_eq_getElem (by omega)⟩
    refine ⟨h0, g, hg, ?_⟩
    unfold endL
    rw [if_neg (by omega), hg]
    exact cut_byte _ ha
theorem endL_not {x : Lexicon} (h : checkV x = 0) (p : Int) : 61 ∉ endL x p := by
  obtain ⟨_, _, h2, _⟩ := check_parts h
  unfold endL
  split
  · simp
  · split
    · rename_i g hg
      simp only [List.mem_cons, not_or]
      exact ⟨by decide, small_not (ok_name (good_at h2 hg)) rfl⟩
    · simp
theorem clitN_not {x : Lexicon} (h : checkV x = 0) (c : Int) : 61 ∉ clitN x c := by
  obtain ⟨_, _, _, h3⟩ := check_parts h
  unfold clitN
  split
  · rename_i g hg
    exact small_not (ok_clit (good_at h3 hg)) rfl
  · simp
theorem clitN_inj {x : Lexicon} (h : checkV x = 0) {c d : Int} (hc : 0 ≤ c ∧ c < x.clitics.length) (hd : 0 ≤ d ∧ d < x.clitics.length) (e : clitN x c = clitN x d) : c = d := by
  obtain ⟨_, _, _, h3⟩ := check_parts h
  obtain ⟨g, hg⟩ : ∃ g, x.clitics[c.toNat]? = some g := ⟨_, List.getElem?_eq_getElem (by omega)⟩
  obtain ⟨k, hk⟩ : ∃ g, x.clitics[d.toNat]? = some g := ⟨_, List.getElem?_eq_getElem (by omega)⟩
  have e' : g.name.data.toList = k.name.data.toList := by
    unfold clitN at e
    rw [hg, hk] at e
    exact e
  have s1 : Clitic.same g k = true := by simp [Clitic.same, toList_eq e']
  have s2 : Clitic.same k g = true := by simp [Clitic.same, toList_eq e']
  rcases Nat.lt_trichotomy c.toNat d.toNat with q | q | q
  · rw [good_uniq h3 q hg hk] at s1; cases s1
  · omega
  · rw [good_uniq h3 q hk hg] at s2; cases s2
theorem endN_uniq {x : Lexicon} (h : checkV x = 0) {p q : Nat} {g k : Ending} (hg : x.endings[p]? = some g) (hk : x.endings[q]? = some k) (e1 : g.kind = k.kind) (e2 : g.name.data.toList = k.name.data.toList) : p = q := by
  obtain ⟨_, _, h2, _⟩ := check_parts h
  have s1 : Ending.same g k = true := by simp [Ending.same, e1, toList_eq e2]
  have s2 : Ending.same k g = true := by simp [Ending.same, e1, toList_eq e2]
  rcases Nat.lt_trichotomy p q with r | r | r
  · rw [good_uniq h2 r hg hk] at s1; cases s1
  · exact r
  · rw [good_uniq h2 r hk hg] at s2; cases s2
theorem form_entry {x : Lexicon} {f : Form} (hf : formV x f = 0) : ∃ e, x.entries[f.entry.toNat]? = some e ∧ e.ok = true := by
  obtain ⟨hv, e, he, _⟩ := form_parts hf
  exact ⟨e, he, good_at (check_parts hv.chk).2.1 he⟩
/-- a valid form's gloss, taken apart -/
theorem gloss_split {x : Lexicon} {f : Form} (hf : formV x f = 0) {e : Entry} (he : x.entries[f.entry.toNat]? = some e) : Lib.split (glossV x f).data.toList [61] = (headL e ++ endL x f.ending) :: f.clitics.map (clitN x) := by
  have hv := valid_of hf
  have hok := good_at (check_parts hv.chk).2.1 he
  rw [gloss_list hf he]
  refine split_byte _ _ ?_ ?_
  · rw [List.mem_append, not_or]
    exact ⟨(headL_not hok).1, endL_not hv.chk _⟩
  · intro w hw
    obtain ⟨c, _, rfl⟩ := List.mem_map.1 hw
    exact clitN_not hv.chk c
/-- the ending of a valid form is of its entry's kind -/
theorem form_end {x : Lexicon} {f : Form} (hf : formV x f = 0) {e : Entry} (he : x.entries[f.entry.toNat]? = some e) {g : Ending} (h0 : 0 ≤ f.ending) (hg : x.endings[f.ending.toNat]? = some g) : g.kind = e.kind := by
  have hok : endOK x f = true := by
    unfold formV at hf
    split at hf
    · rename_i h; exact absurd hf h
    · split at hf
      · cases hf
      · split at hf
        · cases hf
        · rename_i h; simpa using h
  have hl := (List.getElem?_eq_some_iff.1 hg).1
  rw [endOK_in (by omega) (within_iff.2 ⟨h0, by omega⟩) hg he] at hok
  exact of_decide_eq_true hok
/-- forms with the same gloss are the same -/
theorem gloss_inj {x : Lexicon} {f g : Form} (hf : formV x f = 0) (hg : formV x g = 0) (h : glossV x f = glossV x g) : f = g := by
  obtain ⟨e, he, eok⟩ := form_entry hf
  obtain ⟨k, hk, kok⟩ := form_entry hg
  have vf := valid_of hf
  have vg := valid_of hg
  have hs := gloss_split hf he
  rw [h, gloss_split hg hk] at hs
  injection hs with h1 h2
  have hc : f.clitics = g.clitics := by
    have hl := congrArg List.length h2
    rw [List.length_map, List.length_map] at hl
    refine List.ext_getElem? fun n => ?_
    by_cases hn : n < f.clitics.length
    · have q := congrArg (fun l : List (List UInt8) => l[n]?) h2
      simp only [List.getElem?_map, List.getElem?_eq_getElem hn, List.getElem?_eq_getElem (show n < g.clitics.length by omega), Option.map_some, Option.some.injEq] at q
      rw [List.getElem?_eq_getElem hn, List.getElem?_eq_getElem (show n < g.clitics.length by omega)]
      rw [clitN_inj vf.chk (vg.cl n _ (List.getElem?_eq_getElem (show n < g.clitics.length by omega))) (vf.cl n _ (List.getElem?_eq_getElem hn)) q]
    · rw [List.getElem?_eq_none (by omega), List.getElem?_eq_none (by omega)]
  have c1 := endL_cut (headL e) (headL_not eok).2 vf.fin
  have c2 := endL_cut (headL k) (headL_not kok).2 vg.fin
  rw [h1] at c2
  have key : headL e = headL k ∧ f.ending = g.ending := by
    rcases c1 with ⟨p1, q1⟩ | ⟨p1, u, hu, q1⟩
    · rcases c2 with ⟨p2, q2⟩ | ⟨p2, v, hv, q2⟩
      · rw [q1] at q2; injection q2 with q2 _; exact ⟨q2, by rw [p1, p2]⟩
      · rw [q1] at q2; injection q2 with _ q2; injection q2 with _ q2; cases q2
    · rcases c2 with ⟨p2, q2⟩ | ⟨p2, v, hv, q2⟩
      · rw [q1] at q2; injection q2 with _ q2; injection q2 with _ q2; cases q2
      · rw [q1] at q2
        injection q2 with q2 q3
        injection q3 with q3 _
        refine ⟨q2, ?_⟩
        have ei := entry_uniq vf.chk he hk q2
        have ek : e = k := by rw [ei, hk] at he; exact (Option.some.inj he).symm
        have := endN_uniq vf.chk hu hv (by rw [form_end hf he p1 hu, form_end hg hk p2 hv, ek]) q3
        omega
  have ei := entry_uniq vf.chk he hk key.1
  have hfe := vf.ent
  have hge := vg.ent
  cases f
  cases g
  simp only at hc key ei hfe hge
  rw [hc, key.2]
  congr 1
  omega
/-- one more clitic -/
def more (f : Form) (c : Nat) : Form := ⟨f.entry, f.ending, f.clitics ++ [(c : Int)]⟩
theorem clitOK_append {n c : Int} (hc : c < n) : ∀ (l : List Int) (last : Int), clitOK n last l = true → last < c → (∀ a ∈ l, a < c) → clitOK n last (l ++ [c]) = true
  | [], last, _, h, _ => by simp [clitOK, h, hc]
  | a :: r, last, h, _, ha => by
    simp only [clitOK, Bool.and_eq_true, List.cons_append] at h ⊢
    exact ⟨h.1, h.2.1, clitOK_append hc r a h.2.2 (ha a (by simp)) (fun b hb => ha b (by simp [hb]))⟩
theorem form_pieces {x : Lexicon} {f : Form} (ho : formV x f = 0) : checkV x = 0 ∧ withinB f.entry 0 ((x.entries.length : Int) - 1) = true ∧ endOK x f = true ∧ f.clitics.length ≤ 3 ∧ clitOK x.clitics.length (-1) f.clitics = true := by
  have hv := valid_of ho
  unfold formV at ho
  rw [if_neg (by simp [hv.chk])] at ho
  have hw : withinB f.entry 0 ((x.entries.length : Int) - 1) = true := by
    cases q : withinB f.entry 0 ((x.entries.length : Int) - 1)
    · rw [if_pos q] at ho; cases ho
    · rfl
  rw [if_neg (by rw [hw]; simp)] at ho
  have he : endOK x f = true := by
    cases q : endOK x f
    · rw [if_pos q] at ho; cases ho
    · rfl
  rw [if_neg (by rw [he]; simp), if_neg (by have := hv.few; omega)] at ho
  have hco : clitOK x.clitics.length (-1) f.clitics = true := by
    cases q : clitOK x.clitics.length (-1) f.clitics
    · rw [if_pos q] at ho; cases ho
    · rfl
  exact ⟨hv.chk, hw, he, hv.few, hco⟩
theorem more_valid {x : Lexicon} {f : Form} {c : Nat} (hf : formV x f = 0) (hl : ∀ a ∈ f.clitics, a < (c : Int)) (h3 : f.clitics.length < 3) (hc : c < x.clitics.length) : formV x (more f c) = 0 := by
  obtain ⟨h0, h1, h2, _, h4⟩ := form_pieces hf
  refine formV_0 h0 h1 h2 ?_ ?_
  · show ¬ 3 < (f.clitics ++ [(c : Int)]).length
    rw [List.length_append, List.length_singleton]
    omega
  · exact clitOK_append (by omega) f.clitics (-1) h4 (by omega) hl
theorem gloss_more {x : Lexicon} {f : Form} {c : Nat} (hf : formV x f = 0) (hm : formV x (more f c) = 0) : (glossV x (more f c)).data.toList = (glossV x f).data.toList ++ 61 :: clitN x (c : Int) := by
  obtain ⟨e, he, _⟩ := form_entry hf
  rw [gloss_list hf he, gloss_list hm (e := e) he]
  show headL e ++ endL x f.ending ++ clitL x (f.clitics ++ [(c : Int)]) = _
  rw [clitL_append, clitL_cons]
  simp [clitL]
/-- does it go on with this clitic? -/
def hitB (x : Lexicon) (s : List UInt8) (f : Form) (c : Nat) : Bool := ((glossV x (more f c)).data.toList ++ [61]).isPrefixOf s || decide (s = (glossV x (more f c)).data.toList)
def stepG (x : Lexicon) (s : List UInt8) (f : Form) (c : Nat) : Form := if hitB x s f c then more f c else f
/-- f is what g is up toq clitic c -/
structure OnWay (g f : Form) (c : Nat) : Prop where
  ent : f.entry = g.entry
  fin : f.ending = g.ending
  ex : ∃ m, m ≤ g.clitics.length ∧ f.clitics = g.clitics.take m ∧ ∀ j a, m ≤ j → g.clitics[j]? = some a → (c : Int) ≤ a
theorem clitOK_up {n : Int} : ∀ (l : List Int) (last : Int), clitOK n last l = true → ∀ (i j : Nat) (a b : Int), i < j → l[i]? = some a → l[j]? = some b → a < b
  | [], _, _, i, j, a, b, _, h, _ => by simp at h
  | d :: r, last, h, 0, j + 1, a, b, _, ha, hb => by
    simp only [clitOK, Bool.and_eq_true, decide_eq_true_eq] at h
    simp at ha hb
    subst ha
    exact (clit_at r d h.2.2 j b hb).1
  | d :: r, last, h, i + 1, j + 1, a, b, hij, ha, hb => by
    simp only [clitOK, Bool.and_eq_true, decide_eq_true_eq] at h
    simp at ha hb
    exact clitOK_up r d h.2.2 i j a b (by omega) ha hb
theorem onway_zero {x : Lexicon} {g : Form} (hg : formV x g = 0) : OnWay g ⟨g.entry, g.ending, []⟩ 0 :=
  ⟨rfl, rfl, 0, Nat.zero_le _, by simp, fun j a _ h => ((valid_of hg).cl j a h).1⟩
theorem gloss_way {x : Lexicon} {g f : Form} {c m : Nat} (hg : formV x g = 0) (hf : formV x f = 0) (h : OnWay g f c) (hm : f.clitics = g.clitics.take m) : (glossV x g).data.toList = (glossV x f).data.toList ++ clitL x (g.clitics.drop m) := by
  obtain ⟨e, he, _⟩ := form_entry hg
  rw [gloss_list hg he, gloss_list hf (e := e) (by rw [h.ent]; exact he), hm, h.fin, List.append_assoc, List.append_assoc, List.append_assoc, ← clitL_append, List.take_append_drop]
theorem onway_step {x : Lexicon} {s : List UInt8} {g f : Form} {c : Nat} (hg : formV x g = 0) (hs : (glossV x g).data.toList = s) (hf : formV x f = 0) (h : OnWay g f c) (hl : ∀ a ∈ f.clitics, a < (c : Int)) (h3 : f.clitics.length < 3) (hc : c < x.clitics.length) : OnWay g (stepG x s f c) (c + 1) := by
  obtain ⟨m, hm, hcl, hup⟩ := h.ex
  have hmore := more_valid hf hl h3 hc
  have hchk := (valid_of hf).chk
  have e1 := gloss_way hg hf h hcl
  rw [hs] at e1
  have e2 := gloss_more hf hmore
  unfold stepG hitB
  rw [e2, e1]
  by_cases hlast : m < g.clitics.length
  · obtain ⟨d, hd⟩ : ∃ d, g.clitics[m]? = some d := ⟨_, List.getElem?_eq_getElem hlast⟩
    have hdv := (valid_of hg).cl m d hd
    have ed : g.clitics.drop m = d :: g.clitics.drop (m + 1) := by
      rw [List.drop_eq_getElem_cons hlast]
      rw [List.getElem?_eq_getElem hlast] at hd
      rw [Option.some.inj hd]
    have hcd := hup m d (Nat.le_refl _) hd
    rw [ed, clitL_cons]
    by_cases he : d = (c : Int)
    · rw [if_pos]
      · refine ⟨h.ent, h.fin, m + 1, hlast, ?_, fun j a hj ha => ?_⟩
        · show f.clitics ++ [(c : Int)] = _
          rw [hcl, List.take_succ_eq_append_getElem hlast, ← he]
          rw [List.getElem?_eq_getElem hlast] at hd
          rw [Option.some.inj hd]
        · have := clitOK_up _ _ (form_pieces hg).2.2.2.2 m j d a (by omega) hd ha
          omega
      · rw [he]
        cases q : g.clitics.drop (m + 1) with
        | nil => simp [clitL]
        | cons u r =>
          rw [clitL_cons, Bool.or_eq_true]
          left
          rw [List.isPrefixOf_iff_prefix]
          exact ⟨clitN x u ++ clitL x r, by simp⟩
    · have hne : clitN x (c : Int) ≠ clitN x d := fun e => he (clitN_inj hchk ⟨by omega, by omega⟩ hdv e).symm
      have n1 := clitN_not hchk (c : Int)
      have n2 := clitN_not hchk d
      have hrest : clitL x (g.clitics.drop (m + 1)) = [] ∨ ∃ v, clitL x (g.clitics.drop (m + 1)) = 61 :: v := by
        cases g.clitics.drop (m + 1) with
        | nil => left; rfl
        | cons u r => right; rw [clitL_cons]; exact ⟨_, rfl⟩
      rw [if_neg]
      · exact ⟨h.ent, h.fin, m, hm, hcl, fun j a hj ha => by
          by_cases hjm : j = m
          · subst hjm; rw [hd] at ha; cases ha; omega
          · have := clitOK_up _ _ (form_pieces hg).2.2.2.2 m j d a (by omega) hd ha
            omega⟩
      · rw [Bool.or_eq_true, List.isPrefixOf_iff_prefix, decide_eq_true_eq]
        rintro (⟨u, hu⟩ | hu)
        · rw [List.append_assoc, List.append_assoc] at hu
          have hu := List.append_cancel_left hu
          simp only [List.cons_append, List.cons.injEq, true_and, List.nil_append] at hu
          rcases hrest with q | ⟨v, q⟩
          · rw [q, List.append_nil] at hu
            rw [← hu] at n2
            simp at n2
          · rw [q] at hu
            have c1 := cut_byte u n1
            have c2 := cut_byte v n2
            rw [hu, c2] at c1
            injection c1 with c1 _
            exact hne c1.symm
        · have hu := List.append_cancel_left hu
          simp only [List.cons.injEq, true_and] at hu
          rcases hrest with q | ⟨v, q⟩
          · rw [q, List.append_nil] at hu
            exact hne hu.symm
          · rw [q] at hu
            rw [← hu] at n1
            simp at n1
  · have ed : g.clitics.drop m = [] := List.drop_eq_nil_of_le (by omega)
    rw [ed]
    have e0 : clitL x [] = [] := rfl
    rw [e0, List.append_nil, if_neg]
    · exact ⟨h.ent, h.fin, m, hm, hcl, fun j a hj ha => by
        have := (List.getElem?_eq_some_iff.1 ha).1
        omega⟩
    · rw [Bool.or_eq_true, List.isPrefixOf_iff_prefix, decide_eq_true_eq]
      rintro (hu | hu)
      · have := hu.length_le
        simp at this
        omega
      · have := congrArg List.length hu
        simp at this
theorem onway_end {x : Lexicon} {g f : Form} {c : Nat} (hg : formV x g = 0) (h : OnWay g f c) (he : x.clitics.length ≤ c ∨ 3 ≤ f.clitics.length) : f = g := by
  obtain ⟨m, hm, hcl, hup⟩ := h.ex
  have hall : g.clitics.take m = g.clitics := by
    refine List.take_of_length_le ?_
    rcases he with q | q
    · rcases Nat.lt_or_ge m g.clitics.length with hlt | hge
      · have h1 := hup m _ (Nat.le_refl _) (List.getElem?_eq_getElem hlt)
        have h2 := ((valid_of hg).cl m _ (List.getElem?_eq_getElem hlt)).2
        omega
      · exact hge
    · rw [hcl, List.length_take] at q
      have := (valid_of hg).few
      omega
  obtain ⟨h1, h2, h3⟩ := (⟨h.ent, h.fin, hcl.trans hall⟩ : f.entry = g.entry ∧ f.ending = g.ending ∧ f.clitics = g.clitics)
  cases f
  cases g
  simp only at h1 h2 h3
  rw [h1, h2, h3]
/-- what is read from a gloss -/
def ReadG (x : Lexicon) (s : ByteArray) (f : Form) (n : Int) : Prop :=
  (checkV x ≠ 0 ∧ n = checkV x ∧ f = ⟨0, 0, []⟩) ∨
  (checkV x = 0 ∧ ((n = 0 ∧ formV x f = 0 ∧ glossV x f = s) ∨ (n = 4 ∧ f = ⟨0, 0, []⟩ ∧ ∀ g, formV x g = 0 → glossV x g ≠ s)))
theorem readG_uniq {x : Lexicon} {s : ByteArray} {f g : Form} {n k : Int} (h1 : ReadG x s f n) (h2 : ReadG x s g k) : f = g ∧ n = k := by
  rcases h1 with ⟨a1, a2, a3⟩ | ⟨a1, ⟨a2, a3, a4⟩ | ⟨a2, a3, a4⟩⟩
  · rcases h2 with ⟨b1, b2, b3⟩ | ⟨b1, _⟩
    · exact ⟨a3.trans b3.symm, a2.trans b2.symm⟩
    · exact absurd b1 a1
  · rcases h2 with ⟨b1, _⟩ | ⟨b1, ⟨b2, b3, b4⟩ | ⟨b2, b3, b4⟩⟩
    · exact absurd a1 b1
    · exact ⟨gloss_inj a3 b3 (a4.trans b4.symm), a2.trans b2.symm⟩
    · exact absurd a4 (b4 f a3)
  · rcases h2 with ⟨b1, _⟩ | ⟨b1, ⟨b2, b3, b4⟩ | ⟨b2, b3, b4⟩⟩
    · exact absurd a1 b1
    · exact absurd b4 (a4 g b3)
    · exact ⟨a3.trans b3.symm, a2.trans b2.symm⟩
end Lx
