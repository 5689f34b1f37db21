/- strings.Split at a byte: the words of a line. strings.SplitAfter at a line feed, CutSuffix; sizes of what a line gives. -/
import Derived.Test.YtkmimjngmfdpmaaGreatDoorMpSgVal
import Derived.Test.YtkmimjngmfdpmaaGreatDoorMpSgRead
namespace Go.Proofs.YtkmimjngmfdpmaaGreatDoor
open Go Go.RowKit

def RetSplitG (q : List (List UInt8)) (w : World) (e : Ending) (w' : World) : Prop := ∃ v, ∃ l : List ByteArray, e = .returned v ∧ RdS w' w'.heap.size 1 encStr v l ∧ l.map (·.data.toList) = q ∧ Below w.heap.size w w'
theorem flat_strG (l : List ByteArray) : l.map Value.string = l.flatMap encStr := by
  induction l with
  | nil => rfl
  | cons a l ih => rw [List.map_cons, List.flatMap_cons, ih]; rfl
theorem splitB_len (c : UInt8) (sv : Nat) (t : ByteArray) : (Lib.splitB ⟨#[c]⟩ sv (Lib.countB t ⟨#[c]⟩) t).length = (Lib.splitB ⟨#[c]⟩ 0 (Lib.countB t ⟨#[c]⟩) t).length := by
  generalize Lib.countB t ⟨#[c]⟩ = k
  induction k generalizing t with
  | zero => rfl
  | succ k ih =>
    unfold Lib.splitB
    split
    · rfl
    · rw [List.length_cons, List.length_cons, ih]
theorem gsplit_any (t : ByteArray) (c : UInt8) (w : World) (hg : Glob w) (ht : t.size ≤ 1000000) : Calls Tryz.prog 94 #[.string t, .string ⟨#[c]⟩] w (RetSplitG (Lib.split t.data.toList [c]) w) := by
  obtain ⟨m, hm⟩ := hg.most
  have hs1 : 1 ≤ (⟨#[c]⟩ : ByteArray).size := Nat.le_refl 1
  have hl := Lib.splitB_all ⟨#[c]⟩ hs1 0 _ t rfl
  have hd := Lib.splitB_data ⟨#[c]⟩ 0 (Lib.countB t ⟨#[c]⟩) t
  have hc := Lib.countB_le ⟨#[c]⟩ hs1 t.size t (Nat.le_refl _)
  refine (Tryz.strings_Split t ⟨#[c]⟩ m w (by omega) hm hs1).mono ?_
  obtain ⟨l, hl'⟩ : ∃ l, l = Lib.splitB ⟨#[c]⟩ 0 (Lib.countB t ⟨#[c]⟩) t := ⟨_, rfl⟩
  rw [← hl'] at hl hd ⊢
  rintro e w' ⟨rfl, rfl⟩
  have hn : Lib.countB t ⟨#[c]⟩ + 1 = l.length := by omega
  rw [hn]
  exact ⟨_, l, rfl, rds_block (xs := l) len_str (heap_alloc_new w _) (by simpa using flat_strG l) (by simp) (Nat.le_refl _) (by omega), hd.symm ▸ rfl, (Below.refl _ _).alloc (Nat.le_refl _) _⟩
/-- words hold no byte that the line has not, and are no longer -/
theorem Sg.split_mem {l x : List UInt8} {c b : UInt8} (h : x ∈ Lib.split l [c]) (hb : b ∈ x) : b ∈ l := by
  obtain ⟨a, ws, h1, h2, -, -⟩ := Lx.pst_join c l
  rw [Lx.pst_split, h1] at h
  rw [h2]
  rcases List.mem_cons.1 h with rfl | h
  · exact List.mem_append_left _ hb
  · exact List.mem_append_right _ (List.mem_flatMap.2 ⟨x, h, List.mem_cons_of_mem _ hb⟩)
theorem Sg.split_leG {l x : List UInt8} {c : UInt8} (h : x ∈ Lib.split l [c]) : x.length ≤ l.length := by
  obtain ⟨a, ws, h1, h2, -, -⟩ := Lx.pst_join c l
  rw [Lx.pst_split, h1] at h
  have h3 := congrArg List.length h2
  rw [List.length_append] at h3
  rcases List.mem_cons.1 h with rfl | h
  · omega
  · obtain ⟨p, q, rfl⟩ := List.append_of_mem h
    simp at h3
    omega
/-- one more value of the call's own -/
theorem own_value {w' : World} {base : Nat} {v' : Value} {l : List Sg.Value} {z : Sg.Value} (h : w'.ownsRow base 60 4 v' (l.length + 1) (l.flatMap encValue ++ [z].flatMap encValue)) : w'.ownsRow base 60 4 v' (l ++ [z]).length ((l ++ [z]).flatMap encValue) := by
  rw [List.length_append, List.flatMap_append]
  exact h
theorem rd_one_value (W : World) (z : Sg.Value) : RdS (W.alloc (.cells #[.int .i64 z.kind, .string z.text, .int .i64 z.lo, .int .i64 z.hi] 60)) (W.alloc (.cells #[.int .i64 z.kind, .string z.text, .int .i64 z.lo, .int .i64 z.hi] 60)).heap.size 4 encValue (.slice (some ⟨W.heap.size, 0, none⟩) 1 1) [z] :=
  rds_block (xs := [z]) len_value (heap_alloc_new W _) rfl (by simp) (Nat.le_refl 1) (by decide)
end Go.Proofs.YtkmimjngmfdpmaaGreatDoor
namespace Go.Proofs.YtkmimjngmfdpmaaGreatDoor
open Go Go.RowKit

def RetAfter (q : List (List UInt8)) (w : World) (e : Ending) (w' : World) : Prop := ∃ l : List ByteArray, l.map (·.data.toList) = q ∧ e = .returned (.slice (some ⟨w.heap.size, 0, none⟩) l.length l.length) ∧ w' = w.alloc (.cells (l.map Value.string).toArray 9)
theorem genAfter_any (t : ByteArray) (w : World) (hg : Glob w) (ht : t.size ≤ 1000000) : Calls Tryz.prog 91 #[.string t, .string ⟨#[10]⟩, .int .i64 1, .int .i64 (-1)] w (RetAfter ((Lx.pst 10 t.data.toList).1.map (· ++ [10]) ++ [(Lx.pst 10 t.data.toList).2]) w) := by
  obtain ⟨m, hm⟩ := hg.most
  have hs1 : 1 ≤ (⟨#[10]⟩ : ByteArray).size := Nat.le_refl 1
  have hl := Lib.splitB_all ⟨#[10]⟩ hs1 0 _ t rfl
  have hlen := splitB_len 10 1 t
  have hc := Lib.countB_le ⟨#[10]⟩ hs1 t.size t (Nat.le_refl _)
  have hd := Lib.splitB_data ⟨#[10]⟩ 1 (Lib.countB t ⟨#[10]⟩) t
  have hcount : Lib.countB t ⟨#[10]⟩ = Lib.count t.data.toList [10] := by first | rfl | exact Lib.countB_data _ _ | exact Lib.countB_eq _ _
  refine (Tryz.strings_genSplit t ⟨#[10]⟩ 1 (-1) (Lib.countB t ⟨#[10]⟩ + 1) m w (by omega) hm hs1 (Nat.le_refl 1) (by decide) (by decide) (by simp; omega)).mono ?_
  rw [Nat.add_sub_cancel]
  obtain ⟨l, hl'⟩ : ∃ l, l = Lib.splitB ⟨#[10]⟩ 1 (Lib.countB t ⟨#[10]⟩) t := ⟨_, rfl⟩
  rw [← hl'] at hd hlen ⊢
  rintro e w' ⟨rfl, rfl⟩
  have hn : Lib.countB t ⟨#[10]⟩ + 1 = l.length := by omega
  rw [hn]
  refine ⟨l, ?_, rfl, ?_⟩
  · rw [hd, hcount]
    exact Sg.split_after 10 t.data.toList
  · unfold Lib.cellsOf
    rw [Nat.sub_self, List.replicate_zero, List.append_nil]
set_option maxRecDepth 100000 in
theorem gAfter_any (t : ByteArray) (w : World) (hg : Glob w) (ht : t.size ≤ 1000000) : Calls Tryz.prog 56 #[.string t, .string ⟨#[10]⟩] w (RetAfter ((Lx.pst 10 t.data.toList).1.map (· ++ [10]) ++ [(Lx.pst 10 t.data.toList).2]) w) := by
  have HI := Lib.hid (genAfter_any t w hg ht)
  generalize (Lx.pst 10 t.data.toList).1.map (· ++ [10]) ++ [(Lx.pst 10 t.data.toList).2] = q at HI ⊢
  go_enter Tryz.func56, Tryz.ntmps56
  go_wp2_with fail
  refine HI.out.mono ?_
  rintro e w1 ⟨l, h1, rfl, rfl⟩
  go_wp2_with fail
  go_ret
  exact ⟨l, h1, rfl, rfl⟩
theorem suffix_yes (y : List UInt8) : Lib.hasSuffix (y ++ [10]) [10] = true ∧ Lib.trimSuffix (y ++ [10]) [10] = y := by
  have h : Lib.hasSuffix (y ++ [10]) [10] = true := by
    unfold Lib.hasSuffix
    rw [List.isSuffixOf_iff_suffix]
    exact ⟨y, rfl⟩
  refine ⟨h, ?_⟩
  unfold Lib.trimSuffix
  rw [if_pos h]
  simp
theorem suffix_no {y : List UInt8} (h : (10 : UInt8) ∉ y) : Lib.hasSuffix y [10] = false ∧ Lib.trimSuffix y [10] = y := by
  have h' : Lib.hasSuffix y [10] = false := by
    cases hh : Lib.hasSuffix y [10]
    · rfl
    · unfold Lib.hasSuffix at hh
      rw [List.isSuffixOf_iff_suffix] at hh
      obtain ⟨z, rfl⟩ := hh
      exact absurd (by simp) h
  refine ⟨h', ?_⟩
  unfold Lib.trimSuffix
  rw [h']
  rfl
/-- the line of a sign gives no longer texts than it has -/
theorem Sg.signL_size {ws : List (List UInt8)} {s : Sg.Sign} {N : Nat} (h : Sg.signL ws = some s) (hw : ∀ x ∈ ws, x.length ≤ N) : s.code.size ≤ N ∧ ∀ v ∈ s.values, v.text.size ≤ N := by
  match ws, h with
  | c :: z :: r, h =>
    unfold Sg.signL at h
    simp only at h
    split at h
    · split at h
      · cases h
        refine ⟨hw c (by simp), fun v hv => ?_⟩
        unfold Sg.valsOf at hv
        obtain ⟨x, hx, e⟩ := List.mem_filterMap.1 hv
        have hxr : x ∈ r := by
          unfold Sg.unmarked at hx
          split at hx
          · exact List.mem_of_mem_tail hx
          · exact hx
        have hx2 := hw x (by simp [hxr])
        cases hq : Sg.valV x with
        | none => rw [hq] at e; cases e
        | some u =>
          rw [hq] at e
          cases e
          obtain ⟨k, m, q, a, b, e1, -, -, -, e5⟩ := Sg.valV_shape.1 hq
          subst e5
          rw [e1] at hx2
          show m.length ≤ N
          simp at hx2
          omega
      · cases h
    · cases h
theorem Sg.signsL_fits {l : List (List UInt8)} (h : ∀ x ∈ l, x.length ≤ 1000000) : ∀ s ∈ Sg.signsL l, Sg.Sign.fits s := by
  intro s hs
  unfold Sg.signsL at hs
  obtain ⟨x, hx, e⟩ := List.mem_filterMap.1 hs
  have hx2 := h x (List.mem_of_mem_tail hx)
  obtain ⟨h1, h2⟩ := Sg.signL_size e (N := 1000000) fun y hy => Nat.le_trans (Sg.split_leG hy) hx2
  exact ⟨by unfold maxLen; omega, fun v hv => by have := h2 v hv; unfold Sg.Value.fits maxLen; omega⟩
end Go.Proofs.YtkmimjngmfdpmaaGreatDoor
