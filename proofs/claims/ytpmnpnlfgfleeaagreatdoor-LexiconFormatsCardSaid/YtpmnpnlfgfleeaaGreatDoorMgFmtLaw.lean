/- A valid lexicon's text is read as this lexicon: plain law. -/
import Derived.Test.YtpmnpnlfgfleeaaGreatDoorMgFmtPlain
import Derived.Test.YtpmnpnlfgfleeaaGreatDoorMgLparse
namespace Go.Proofs.YtpmnpnlfgfleeaaGreatDoor
open Go

theorem Lx.digV_snoc (l : List UInt8) (b : UInt8) : Lx.digV (l ++ [b]) = 10 * Lx.digV l + ((b.toNat : Int) - 48) := by unfold _root_.Lx.digV; rw [List.foldl_append]; rfl
theorem dig_toNat {d : Nat} (h : d < 10) : (UInt8.ofNat (48 + d)).toNat = 48 + d := by
  rw [UInt8.toNat_ofNat']
  omega
theorem dig_digB {d : Nat} (h : d < 10) : Lx.digB (UInt8.ofNat (48 + d)) = true := by
  unfold _root_.Lx.digB
  rw [dig_toNat h]
  simp; omega
structure Digs (u : Nat) (l : List UInt8) : Prop where
  ne : l ≠ []
  all : l.all Lx.digB = true
  val : Lx.digV l = (u : Int)
  head : l[0]? = some 48 → u = 0
theorem dec_digs : ∀ (N u : Nat), u ≤ N → Digs u (Lib.decDigits u) := by
  intro N
  induction N with
  | zero =>
    intro u h
    obtain rfl : u = 0 := by omega
    rw [Lib.decDigits_one (by omega)]
    exact ⟨by simp, rfl, rfl, fun _ => rfl⟩
  | succ N ih =>
    intro u h
    by_cases hu : u < 10
    · rw [Lib.decDigits_one hu]
      refine ⟨by simp, ?_, ?_, fun q => ?_⟩
      · rw [List.all_cons, dig_digB hu]; rfl
      · have := Lx.digV_snoc [] (UInt8.ofNat (48 + u))
        rw [dig_toNat hu] at this
        rw [List.nil_append] at this
        rw [this]
        show 10 * (0 : Int) + _ = _
        omega
      · simp only [List.getElem?_cons_zero, Option.some.injEq] at q
        have := congrArg UInt8.toNat q
        rw [dig_toNat hu] at this
        have e : (48 : UInt8).toNat = 48 := rfl
        omega
    · rw [Lib.decDigits, dif_neg hu]
      have hd : u % 10 < 10 := Nat.mod_lt _ (by omega)
      obtain ⟨h1, h2, h3, h4⟩ := ih (u / 10) (by omega)
      refine ⟨by simp, ?_, ?_, fun q => ?_⟩
      · rw [List.all_append, h2, List.all_cons, dig_digB hd]; rfl
      · rw [Lx.digV_snoc, h3, dig_toNat hd]; omega
      · have hl : 0 < (Lib.decDigits (u / 10)).length := List.length_pos_iff.2 h1
        rw [List.getElem?_append_left hl] at q
        have := h4 q
        omega
theorem dec_len : ∀ (k u : Nat), u < 10 ^ (k + 1) → (Lib.decDigits u).length ≤ k + 1 := by
  intro k
  induction k with
  | zero => intro u h; rw [Lib.decDigits_one (by simpa using h)]; simp
  | succ k ih =>
    intro u h
    by_cases hu : u < 10
    · rw [Lib.decDigits_one hu]; simp
    · rw [Lib.decDigits, dif_neg hu, List.length_append, List.length_singleton]
      have h2 : u / 10 < 10 ^ (k + 1) := by rw [Nat.pow_succ] at h; omega
      have := ih _ h2
      omega
theorem Lx.itoa_num {n : Int} (h : 0 ≤ n ∧ n ≤ 1000) : Lx.numB (Lib.itoa n) 4 = true ∧ Lx.numV (Lib.itoa n) 4 = n ∧ (Lib.itoa n).all Lx.digB = true ∧ Lib.itoa n ≠ [] := by
  obtain ⟨u, rfl⟩ := Int.eq_ofNat_of_zero_le h.1
  rw [Lib.itoa, if_neg (by omega), Int.toNat_natCast]
  have hd := dec_digs u u (Nat.le_refl _)
  have hl := dec_len 3 u (by have : (10 : Nat) ^ (3 + 1) = 10000 := rfl; omega)
  have hp : 0 < (Lib.decDigits u).length := List.length_pos_iff.2 hd.ne
  have hb : Lx.numB (Lib.decDigits u) 4 = true := by
    unfold _root_.Lx.numB
    rw [hd.all, Bool.and_true, Bool.and_eq_true, Bool.and_eq_true, decide_eq_true_eq, decide_eq_true_eq, Bool.not_eq_true', Bool.and_eq_false_iff, decide_eq_false_iff_not, decide_eq_false_iff_not]
    refine ⟨⟨by omega, by omega⟩, ?_⟩
    by_cases q : (Lib.decDigits u)[0]? = some 48
    · right
      have h0 := hd.head q
      subst h0
      rw [Lib.decDigits_one (by omega)]
      simp
    · exact .inl q
  refine ⟨hb, ?_, hd.all, hd.ne⟩
  unfold _root_.Lx.numV
  rw [if_pos hb, hd.val]

/-- no blank and no line's end -/
def Lx.clear (l : List UInt8) : Prop := (32 : UInt8) ∉ l ∧ (10 : UInt8) ∉ l
theorem Lx.clear_of {p : UInt8 → Bool} {l : List UInt8} (h : l.all p = true) (h1 : p 32 = false) (h2 : p 10 = false) : Lx.clear l := by
  rw [List.all_eq_true] at h
  exact ⟨fun q => by (have := h _ q; rw [h1] at this; cases this), fun q => by (have := h _ q; rw [h2] at this; cases this)⟩
theorem Lx.join_flat (a : List UInt8) (ws : List (List UInt8)) : Lib.join (a :: ws) [32] = a ++ ws.flatMap (32 :: ·) := by
  induction ws generalizing a with
  | nil => simp [Lib.join]
  | cons b r ih =>
    have e : Lib.join (a :: b :: r) [32] = a ++ 32 :: Lib.join (b :: r) [32] := by simp [Lib.join]
    rw [e, ih b]
    simp
theorem Lx.split_join {ws : List (List UInt8)} (h : ∀ w ∈ ws, Lx.clear w) (h0 : ws ≠ []) : Lib.split (Lib.join ws [32]) [32] = ws ∧ (10 : UInt8) ∉ Lib.join ws [32] := by
  cases ws with
  | nil => exact absurd rfl h0
  | cons a r =>
    rw [Lx.join_flat]
    refine ⟨_root_.Lx.split_byte r a (h a (by simp)).1 fun w hw => (h w (by simp [hw])).1, ?_⟩
    rw [List.mem_append, List.mem_flatMap]
    rintro (q | ⟨w, hw, q⟩)
    · exact (h a (by simp)).2 q
    · rcases List.mem_cons.1 q with q | q
      · cases q
      · exact (h w (by simp [hw])).2 q
theorem Lx.lines_of : ∀ (bs : List (List UInt8)), (∀ b ∈ bs, (10 : UInt8) ∉ b) → Lx.linesV (bs.flatMap (· ++ [10])) = (bs, true)
  | [], _ => Lx.lines_nil
  | b :: r, h => by
    have e : (b :: r).flatMap (· ++ [10]) = b ++ 10 :: r.flatMap (· ++ [10]) := by simp
    rw [e, (Lx.lines_cut (_root_.Lx.cut_byte _ (h b (by simp)))).1, Lx.lines_of r fun c hc => h c (by simp [hc])]
/-- a row of words that is read as one thing more -/
def Lx.rowsOK (ws : List (List UInt8)) : Prop := (∀ w ∈ ws, Lx.clear w) ∧ ws ≠ []
theorem Lx.readL_rows {α : Type} (f : α → List (List UInt8)) (g : Lx.Lexicon → α → Lx.Lexicon) (I : Lx.Lexicon → Prop) : ∀ (l : List α) (r : List (List UInt8)) (n : Nat) (x : Lx.Lexicon), I x →
    (∀ a ∈ l, Lx.rowsOK (f a) ∧ ∀ y, I y → Lx.lineV y (f a) = some (g y a) ∧ I (g y a)) →
    ∃ m, Lx.readL true (l.map (fun a => Lib.join (f a) [32]) ++ r) n x = Lx.readL true r m (l.foldl g x) ∧ I (l.foldl g x)
  | [], r, n, x, hx, _ => ⟨n, rfl, hx⟩
  | a :: l, r, n, x, hx, h => by
    obtain ⟨⟨h1, h2⟩, h3⟩ := h a (by simp)
    obtain ⟨h4, h5⟩ := h3 x hx
    obtain ⟨m, hm, hI⟩ := Lx.readL_rows f g I l r (n + 1) (g x a) h5 fun b hb => h b (by simp [hb])
    refine ⟨m, ?_, hI⟩
    rw [List.map_cons, List.cons_append, Lx.readL_step (by simp) (by rw [(Lx.split_join h1 h2).1]; exact h4)]
    exact hm
theorem Lx.letter_clear {l : List UInt8} (h : l.all Lx.letter = true) : Lx.clear l := Lx.clear_of h rfl rfl
theorem Lx.small_clear {l : List UInt8} (h : l.all Lx.small = true) : Lx.clear l := Lx.clear_of h rfl rfl
theorem Lx.dig_clear {l : List UInt8} (h : l.all Lx.digB = true) : Lx.clear l := Lx.clear_of h rfl rfl
theorem Lx.sounds_all {s : ByteArray} {m : Int} (h : Lx.soundsB s m = true) : s.data.toList.all Lx.letter = true ∧ s.data.toList ≠ [] := by
  simp only [_root_.Lx.soundsB, Bool.and_eq_true, decide_eq_true_eq] at h
  refine ⟨h.2, fun q => ?_⟩
  have : s.data.toList.length = s.size := rfl
  rw [q] at this
  have := h.1.1
  simp at *
  omega
theorem Lx.name_all {s : ByteArray} (h : Lx.nameB s = true) : s.data.toList.all Lx.small = true ∧ s.data.toList ≠ [] := by
  simp only [_root_.Lx.nameB, Bool.and_eq_true, decide_eq_true_eq] at h
  refine ⟨h.2, fun q => ?_⟩
  have : s.data.toList.length = s.size := rfl
  rw [q] at this
  have := h.1.1
  simp at *
  omega
theorem Lx.dash_of {e : Lx.Entry} (h : Lx.Entry.ok e = true) : Lx.clear (Lx.dashB e.cls).data.toList ∧ (Lx.dashB e.cls).data.toList ≠ [] ∧ Lx.bs (Lx.dash (Lx.dashB e.cls).data.toList) = e.cls := by
  simp only [_root_.Lx.Entry.ok, Bool.and_eq_true, Bool.or_eq_true] at h
  by_cases hc : e.cls.data.toList = []
  · unfold _root_.Lx.dashB
    rw [if_pos hc]
    refine ⟨⟨by decide, by decide⟩, by decide, ?_⟩
    have : e.cls = ⟨#[]⟩ := ba_empty hc
    rw [this]
    rfl
  · have hn : Lx.nameB e.cls = true := by
      rcases h.1.2 with q | q
      · exfalso
        rw [Go.Lib.toList_data] at q
        exact hc (List.isEmpty_iff.1 q)
      · exact q
    have ha := Lx.name_all hn
    unfold _root_.Lx.dashB
    rw [if_neg hc]
    refine ⟨Lx.small_clear ha.1, ha.2, ?_⟩
    unfold Lx.dash
    rw [if_neg]
    · rfl
    · intro q
      have := ha.1
      rw [q] at this
      simp [_root_.Lx.small] at this
theorem Lx.word_row {e : Lx.Entry} (h : Lx.Entry.ok e = true) : Lx.rowsOK (Lx.wordL e) ∧ ∀ y : Lx.Lexicon, (y.endings = [] ∧ y.clitics = []) → Lx.lineV y (Lx.wordL e) = some ⟨y.entries ++ [e], y.endings, y.clitics⟩ ∧ (([] : List Lx.Ending) = [] ∧ ([] : List Lx.Clitic) = []) := by
  have hf := Lx.Entry.fine h
  obtain ⟨d1, d2, d3⟩ := Lx.dash_of h
  have hh := h
  simp only [_root_.Lx.Entry.ok, Bool.and_eq_true, Bool.or_eq_true] at hh
  have hr := Lx.sounds_all hh.1.1.1
  obtain ⟨k1, k2, k3, k4⟩ := Lx.itoa_num (n := e.kind) ⟨by have := hf.k; omega, by have := hf.k; omega⟩
  obtain ⟨w1, w2, w3, w4⟩ := Lx.itoa_num hf.w
  refine ⟨⟨fun w hw => ?_, by simp [_root_.Lx.wordL]⟩, fun y hy => ⟨?_, rfl, rfl⟩⟩
  · simp only [_root_.Lx.wordL, List.mem_cons, List.not_mem_nil, or_false] at hw
    rcases hw with rfl | rfl | rfl | rfl | rfl
    · exact ⟨by decide, by decide⟩
    · exact Lx.letter_clear hr.1
    · exact Lx.dig_clear k3
    · exact d1
    · exact Lx.dig_clear w3
  · unfold Lx.lineV _root_.Lx.wordL
    rw [if_neg (by simp [hr.2, k4, d2, w4])]
    simp only [hy.1, hy.2, List.length_nil, and_self, if_true, k1, w1, k2, w2, d3, Lx.bs_data]
theorem Lx.ending_row {e : Lx.Ending} (h : Lx.Ending.ok e = true) : Lx.rowsOK (Lx.endingL e) ∧ ∀ y : Lx.Lexicon, y.clitics = [] → Lx.lineV y (Lx.endingL e) = some ⟨y.entries, y.endings ++ [e], y.clitics⟩ := by
  have hf := Lx.Ending.fine h
  have hh := h
  simp only [_root_.Lx.Ending.ok, Bool.and_eq_true] at hh
  have hr := Lx.sounds_all hh.1.1.2
  have hn := Lx.name_all hh.1.2
  obtain ⟨k1, k2, k3, k4⟩ := Lx.itoa_num (n := e.kind) ⟨by have := hf.k; omega, by have := hf.k; omega⟩
  obtain ⟨w1, w2, w3, w4⟩ := Lx.itoa_num hf.w
  refine ⟨⟨fun w hw => ?_, by simp [_root_.Lx.endingL]⟩, fun y hy => ?_⟩
  · simp only [_root_.Lx.endingL, List.mem_cons, List.not_mem_nil, or_false] at hw
    rcases hw with rfl | rfl | rfl | rfl | rfl
    · exact ⟨by decide, by decide⟩
    · exact Lx.dig_clear k3
    · exact Lx.letter_clear hr.1
    · exact Lx.small_clear hn.1
    · exact Lx.dig_clear w3
  · unfold Lx.lineV _root_.Lx.endingL
    rw [if_neg (by simp [hr.2, k4, hn.2, w4])]
    simp only [hy, List.length_nil, k1, w1, k2, w2, Lx.bs_data]
    simp
theorem Lx.clitic_row {e : Lx.Clitic} (h : Lx.Clitic.ok e = true) : Lx.rowsOK (Lx.cliticL e) ∧ ∀ y : Lx.Lexicon, Lx.lineV y (Lx.cliticL e) = some ⟨y.entries, y.endings, y.clitics ++ [e]⟩ := by
  have hf := Lx.Clitic.fine h
  have hh := h
  simp only [_root_.Lx.Clitic.ok, Bool.and_eq_true] at hh
  have hr := Lx.sounds_all hh.1.1
  have hn := Lx.name_all hh.1.2
  obtain ⟨w1, w2, w3, w4⟩ := Lx.itoa_num hf.w
  refine ⟨⟨fun w hw => ?_, by simp [_root_.Lx.cliticL]⟩, fun y => ?_⟩
  · simp only [_root_.Lx.cliticL, List.mem_cons, List.not_mem_nil, or_false] at hw
    rcases hw with rfl | rfl | rfl | rfl
    · exact ⟨by decide, by decide⟩
    · exact Lx.letter_clear hr.1
    · exact Lx.small_clear hn.1
    · exact Lx.dig_clear w3
  · unfold Lx.lineV _root_.Lx.cliticL
    rw [if_neg (by simp [hr.2, hn.2, w4])]
    simp only [w1, w2, Lx.bs_data, and_self, if_true]
def Lx.g0 (y : Lx.Lexicon) (e : Lx.Entry) : Lx.Lexicon := ⟨y.entries ++ [e], y.endings, y.clitics⟩
def Lx.g1 (y : Lx.Lexicon) (e : Lx.Ending) : Lx.Lexicon := ⟨y.entries, y.endings ++ [e], y.clitics⟩
def Lx.g2 (y : Lx.Lexicon) (e : Lx.Clitic) : Lx.Lexicon := ⟨y.entries, y.endings, y.clitics ++ [e]⟩
theorem Lx.fold0 : ∀ (l : List Lx.Entry) (y : Lx.Lexicon), l.foldl Lx.g0 y = ⟨y.entries ++ l, y.endings, y.clitics⟩
  | [], y => by simp
  | a :: l, y => by rw [List.foldl_cons, Lx.fold0 l]; simp [Lx.g0]
theorem Lx.fold1 : ∀ (l : List Lx.Ending) (y : Lx.Lexicon), l.foldl Lx.g1 y = ⟨y.entries, y.endings ++ l, y.clitics⟩
  | [], y => by simp
  | a :: l, y => by rw [List.foldl_cons, Lx.fold1 l]; simp [Lx.g1]
theorem Lx.fold2 : ∀ (l : List Lx.Clitic) (y : Lx.Lexicon), l.foldl Lx.g2 y = ⟨y.entries, y.endings, y.clitics ++ l⟩
  | [], y => by simp
  | a :: l, y => by rw [List.foldl_cons, Lx.fold2 l]; simp [Lx.g2]
theorem Lx.flat_lines {α : Type} (f : α → List (List UInt8)) (l : List α) : l.flatMap (fun a => Lx.lineL (f a)) = (l.map fun a => Lib.join (f a) [32]).flatMap (· ++ [10]) := by
  rw [List.flatMap_map]
  rfl
theorem Lx.parse_format {x : Lx.Lexicon} (h : Lx.checkV x = 0) : Lx.parseV (Lx.formatV x) = (x, 0, 0) ∧ (Lx.formatV x).length ≤ 60000 := by
  have hf := Lx.fine_of h
  have hfm : Lx.formatV x = Lx.fmtL x := by unfold _root_.Lx.formatV; rw [if_pos h]
  have hlen : (Lx.formatV x).length ≤ 60000 := by
    rw [hfm]
    unfold _root_.Lx.fmtL
    rw [List.length_append, List.length_append]
    have a0 := Lx.flat_len (f := fun e => Lx.lineL (Lx.wordL e)) (l := x.entries) (fun a ha => Lx.word_len (Lx.Entry.fine (hf.e0 a ha)))
    have a1 := Lx.flat_len (f := fun e => Lx.lineL (Lx.endingL e)) (l := x.endings) (fun a ha => Lx.ending_len (Lx.Ending.fine (hf.e1 a ha)))
    have a2 := Lx.flat_len (f := fun e => Lx.lineL (Lx.cliticL e)) (l := x.clitics) (fun a ha => Lx.clitic_len (Lx.Clitic.fine (hf.e2 a ha)))
    have := hf.n0
    have := hf.n1
    have := hf.n2
    omega
  refine ⟨?_, hlen⟩
  have hlines : Lx.linesV (Lx.formatV x) = ((x.entries.map fun e => Lib.join (Lx.wordL e) [32]) ++ ((x.endings.map fun e => Lib.join (Lx.endingL e) [32]) ++ ((x.clitics.map fun e => Lib.join (Lx.cliticL e) [32]) ++ [])), true) := by
    rw [hfm]
    unfold _root_.Lx.fmtL
    rw [Lx.flat_lines, Lx.flat_lines, Lx.flat_lines, ← List.flatMap_append, ← List.flatMap_append, List.append_nil]
    refine Lx.lines_of _ fun b hb => ?_
    simp only [List.mem_append, List.mem_map] at hb
    rcases hb with ⟨e, he, rfl⟩ | ⟨e, he, rfl⟩ | ⟨e, he, rfl⟩
    · have q := (Lx.word_row (hf.e0 e he)).1
      exact (Lx.split_join q.1 q.2).2
    · have q := (Lx.ending_row (hf.e1 e he)).1
      exact (Lx.split_join q.1 q.2).2
    · have q := (Lx.clitic_row (hf.e2 e he)).1
      exact (Lx.split_join q.1 q.2).2
  unfold Lx.parseV
  rw [if_neg (by omega), hlines]
  obtain ⟨m0, h0, i0⟩ := Lx.readL_rows Lx.wordL Lx.g0 (fun y => y.endings = [] ∧ y.clitics = []) x.entries _ 0 Lx.none3 ⟨rfl, rfl⟩ (fun e he => ⟨(Lx.word_row (hf.e0 e he)).1, fun y hy => ⟨((Lx.word_row (hf.e0 e he)).2 y hy).1, hy⟩⟩)
  obtain ⟨m1, h1, i1⟩ := Lx.readL_rows Lx.endingL Lx.g1 (fun y => y.clitics = []) x.endings ((x.clitics.map fun e => Lib.join (Lx.cliticL e) [32]) ++ []) m0 _ i0.2 (fun e he => ⟨(Lx.ending_row (hf.e1 e he)).1, fun y hy => ⟨(Lx.ending_row (hf.e1 e he)).2 y hy, hy⟩⟩)
  obtain ⟨m2, h2, -⟩ := Lx.readL_rows Lx.cliticL Lx.g2 (fun _ => True) x.clitics [] m1 _ trivial (fun e he => ⟨(Lx.clitic_row (hf.e2 e he)).1, fun y _ => ⟨(Lx.clitic_row (hf.e2 e he)).2 y, trivial⟩⟩)
  rw [h0, h1, h2, Lx.fold0, Lx.fold1, Lx.fold2]
  show Lx.readL true [] m2 ⟨[] ++ x.entries, [] ++ x.endings, [] ++ x.clitics⟩ = _
  simp only [List.nil_append]
  have e : (⟨x.entries, x.endings, x.clitics⟩ : Lx.Lexicon) = x := rfl
  rw [e, Lx.readL, if_pos h]
end Go.Proofs.YtpmnpnlfgfleeaaGreatDoor
