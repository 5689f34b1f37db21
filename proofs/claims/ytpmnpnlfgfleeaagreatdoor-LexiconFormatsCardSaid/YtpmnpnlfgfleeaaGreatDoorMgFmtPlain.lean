/- strings.Builder: copyCheck and WriteString, as this program's text has them. What a lexicon is as text: plain notions. -/
import Derived.Test.YtpmnpnlfgfleeaaGreatDoorMgText01
import Derived.Lib.Builder
import Derived.Lib.AppendStr
import Derived.Test.YtpmnpnlfgfleeaaGreatDoorMgGlossPlain
import Derived.Lib.ItoaLen
import Derived.Shelf.Strings.OnBuilder
import Derived.Shelf.Strconv.Itoa3
namespace Go.Proofs.YtpmnpnlfgfleeaaGreatDoor
open Go Go.RowKit

theorem info_u8 : (Tryz.prog.info? 5).map (fun i => (i.zero, i.size, i.bytes)) = some (some (.int .u8 0), 1, 1) := by kernel_rfl
theorem size_builder : (Tryz.prog.info? 95).map (·.size) = some 2 := by kernel_rfl
theorem lies_builder : liesAt Tryz.prog Tryz.prog.depth 95 (2 / Tryz.prog.cellsOf 95) 0 95 1 = true := by kernel_rfl

set_option maxRecDepth 100000 in
set_option maxHeartbeats 2000000 in
theorem copyCheck_used (b : Nat) (w : World) (h0 : w.cell? ⟨b, 0, none⟩ = some (.pointer (some ⟨b, 0, none⟩))) : Calls Tryz.prog 85 #[.pointer (some ⟨b, 0, none⟩)] w (fun e w' => e = .returned (.tuple #[]) ∧ w' = w) := by
  obtain ⟨j, hj, _⟩ := Option.map_eq_some_iff.1 size_builder
  go_enter Tryz.func85, Tryz.ntmps85
  go_wp2_with fail
  rw [Lib.run_neq_ptr_same w _ Tryz.underlying92 hj]
  go_wp2_with fail
  go_end0
  exact ⟨rfl, rfl⟩
set_option maxRecDepth 100000 in
set_option maxHeartbeats 2000000 in
theorem copyCheck_fresh (b : Nat) (w : World) (h0 : w.cell? ⟨b, 0, none⟩ = some (.pointer none)) (hsh : w.shape? b = some (95, 2)) (hfz : w.frozen? ⟨b, 0, none⟩ = false) : Calls Tryz.prog 85 #[.pointer (some ⟨b, 0, none⟩)] w (fun e w' => e = .returned (.tuple #[]) ∧ w' = w.setCell ⟨b, 0, none⟩ (.pointer (some ⟨b, 0, none⟩))) := by
  obtain ⟨j, hj, hjs⟩ := Option.map_eq_some_iff.1 size_builder
  go_enter Tryz.func85, Tryz.ntmps85
  go_wp2_with fail
  rw [Lib.run_to_unsafe w ⟨b, 0, none⟩ Tryz.underlying92 Tryz.underlying147 hj (by rw [hjs]; decide) hsh (Nat.zero_lt_succ 1)]
  simp only [Result.andThen]
  rw [Oper.upon_value]
  go_wp2_with fail
  rw [run_callFunc_extern Tryz.func106 (by kernel_rfl) (by kernel_rfl) (by kernel_rfl) (e := Extern.AbiNoEscape.same) (by kernel_rfl)]
  rw [Lib.run_noEscape]
  simp only [Result.andThen]
  rw [Oper.upon_value]
  go_wp2_with fail
  rw [Lib.run_from_unsafe w ⟨b, 0, none⟩ Tryz.underlying147 Tryz.underlying92 hj hsh lies_builder]
  simp only [Result.andThen]
  rw [Oper.upon_value]
  go_wp2_with fail
  go_end0
  exact ⟨rfl, rfl⟩
theorem copyCheck_any (B b : Nat) (bs : List Value) (w : World) (h : Lib.IsBuilder 95 5 B b bs w) :
    Calls Tryz.prog 85 #[.pointer (some ⟨b, 0, none⟩)] w (fun e w' => e = .returned (.tuple #[]) ∧ (Lib.BuilderAt 95 5 B b (.pointer (some ⟨b, 0, none⟩)) bs w' ∧ Below B w w')) := by
  rcases h with h | h
  · refine (copyCheck_fresh b w h.cell0 h.shape h.frozen0).mono ?_
    rintro e w' ⟨rfl, rfl⟩
    exact ⟨rfl, h.used _, (Below.refl B w).setCell (p := ⟨b, 0, none⟩) h.1 _⟩
  · refine (copyCheck_used b w h.cell0).mono ?_
    rintro e w' ⟨rfl, rfl⟩
    exact ⟨rfl, h, Below.refl B _⟩
theorem cells_append (l : List UInt8) (s : ByteArray) : Lib.byteCells l ++ Lib.strCells s = Lib.byteCells (l ++ s.data.toList) := by simp [Lib.byteCells, Lib.strCells]
set_option maxRecDepth 100000 in
set_option maxHeartbeats 2000000 in
theorem WriteString_any (B b : Nat) (l : List UInt8) (s : ByteArray) (w : World) (h : Lib.IsBuilder 95 5 B b (Lib.byteCells l) w) (hlen : l.length + s.size ≤ 10000000) (hBw : B ≤ w.heap.size) :
    Calls Tryz.prog 51 #[.pointer (some ⟨b, 0, none⟩), .string s] w (fun e w' => e = .returned (.tuple #[.int .i64 s.size, .nilIface]) ∧ (Lib.IsBuilder 95 5 B b (Lib.byteCells (l ++ s.data.toList)) w' ∧ Below B w w')) := by
  obtain ⟨i0, hi, hz0, hz1, hz2⟩ := info_parts info_u8
  have hbl : (Lib.byteCells l).length = l.length := by simp [Lib.byteCells]
  rw [← cells_append]
  go_enter Tryz.func51, Tryz.ntmps51
  go_wp2_with fail
  refine (copyCheck_any B b (Lib.byteCells l) _ h).mono ?_
  rintro e w1 ⟨rfl, h1, hb1⟩
  obtain ⟨hB, v, hbk, hown, hne⟩ := h1
  have c0 : w1.cell? ⟨b, 0, none⟩ = some (.pointer (some ⟨b, 0, none⟩)) := by rw [Lib.cell_of_heap hbk]; rfl
  have c1 : w1.cell? ⟨b, 1, none⟩ = some v := by rw [Lib.cell_of_heap hbk]; rfl
  have hs1 := hb1.size
  go_wp2_with (at_builtin; refine Lib.wpList_append_own_string _ rfl _ _ 93 9 rfl B 5 i0 Tryz.underlying93 Tryz.underlying9 hi hz0 hz1 hz2 _ _ _ rfl hown s rfl ?c3 ?c4 ?c5 ?_)
  case c3 => unfold maxLen; omega
  case c4 => omega
  case c5 => omega
  intro v' w2 hown' hgrow _
  have hlt : b < w1.heap.size := by
    rcases Nat.lt_or_ge b w1.heap.size with h' | h'
    · exact h'
    · simp [Array.getElem?_eq_none h'] at hbk
  have hb2 : w2.heap[b]? = some (.cells #[.pointer (some ⟨b, 0, none⟩), v] 95 (0, 0)) := by
    rw [hgrow.block b hlt (fun e => hne e.symm)]
    exact hbk
  have d0 : w2.cell? ⟨b, 0, none⟩ = some (.pointer (some ⟨b, 0, none⟩)) := by rw [Lib.cell_of_heap hb2]; rfl
  have d1 : w2.cell? ⟨b, 1, none⟩ = some v := by rw [Lib.cell_of_heap hb2]; rfl
  have f1 : w2.frozen? ⟨b, 1, none⟩ = false := Lib.frozen_of_heap hb2 1
  obtain ⟨ao, n', cap, rfl⟩ : ∃ ao n' cap, v' = .slice ao n' cap := by
    rcases hown'.2 with ⟨hv, _⟩ | ⟨g, cap, cur, hv, _⟩
    · exact ⟨_, _, _, hv⟩
    · exact ⟨_, _, _, hv⟩
  go_wp2_with fail
  go_ret2
  refine ⟨rfl, .inr ?_, ?_⟩
  · exact Lib.BuilderAt.put (T := 95) (e := 5) hB hb2 (bs' := Lib.byteCells l ++ Lib.strCells s) (by simpa [Lib.strCells_length, Lib.byteCells_length] using hown') (by decide)
  · exact (hb1.grown hgrow (by omega) (fun k hk => (hown.lt k hk).1)).setCell (p := ⟨b, 1, none⟩) hB _
end Go.Proofs.YtpmnpnlfgfleeaaGreatDoor
namespace Lx
open Go
/-- the bytes of a line of words -/
def lineL (ws : List (List UInt8)) : List UInt8 := Go.Lib.join ws [32] ++ [10]
def dashB (c : ByteArray) : ByteArray := if c.data.toList = [] then ⟨#[45]⟩ else c
def wordL (e : Entry) : List (List UInt8) := [[119, 111, 114, 100], e.root.data.toList, Go.Lib.itoa e.kind, (dashB e.cls).data.toList, Go.Lib.itoa e.weight]
def endingL (e : Ending) : List (List UInt8) := [[101, 110, 100, 105, 110, 103], Go.Lib.itoa e.kind, e.text.data.toList, e.name.data.toList, Go.Lib.itoa e.weight]
def cliticL (e : Clitic) : List (List UInt8) := [[99, 108, 105, 116, 105, 99], e.text.data.toList, e.name.data.toList, Go.Lib.itoa e.weight]
def fmtL (x : Lexicon) : List UInt8 := x.entries.flatMap (fun e => lineL (wordL e)) ++ (x.endings.flatMap (fun e => lineL (endingL e)) ++ x.clitics.flatMap (fun e => lineL (cliticL e)))
def formatV (x : Lexicon) : List UInt8 := if checkV x = 0 then fmtL x else []

theorem join_length (sep : List UInt8) : ∀ ws : List (List UInt8), (Go.Lib.join ws sep).length ≤ (ws.map (·.length)).sum + ws.length * sep.length
  | [] => by simp [Go.Lib.join]
  | [a] => by simp [Go.Lib.join]
  | a :: b :: r => by
    have := join_length sep (b :: r)
    simp [Go.Lib.join] at this ⊢
    have e : (r.length + 1 + 1) * sep.length = (r.length + 1) * sep.length + sep.length := Nat.succ_mul _ _
    omega
structure Fine (x : Lexicon) : Prop where
  n0 : x.entries.length ≤ 200
  n1 : x.endings.length ≤ 40
  n2 : x.clitics.length ≤ 10
  e0 : ∀ e ∈ x.entries, Entry.ok e = true
  e1 : ∀ e ∈ x.endings, Ending.ok e = true
  e2 : ∀ e ∈ x.clitics, Clitic.ok e = true
theorem fine_of {x : Lexicon} (h : checkV x = 0) : Fine x := by
  unfold checkV at h
  split at h
  · cases h
  · rename_i h0
    split at h
    · cases h
    · rename_i h1
      split at h
      · cases h
      · rename_i h2
        split at h
        · cases h
        · rename_i h3
          simp only [Bool.not_eq_false] at h1 h2 h3
          simp only [tooMany, Bool.or_eq_true, decide_eq_true_eq, not_or] at h0
          have key : ∀ {α : Type} {ok : α → Bool} {same : α → α → Bool} {xs : List α}, good ok same xs = true → ∀ e ∈ xs, ok e = true := fun h e he => by
            obtain ⟨k, hk⟩ := List.mem_iff_getElem?.1 he
            exact good_at h hk
          exact ⟨by omega, by omega, by omega, key h1, key h2, key h3⟩
theorem sounds_size {s : ByteArray} {m : Int} (h : soundsB s m = true) : 1 ≤ s.size ∧ (s.size : Int) ≤ m := by simp [soundsB] at h; exact ⟨h.1.1, h.1.2⟩
theorem name_size {s : ByteArray} (h : nameB s = true) : 1 ≤ s.size ∧ s.size ≤ 8 := by simp [nameB] at h; exact ⟨h.1.1, h.1.2⟩
theorem within_of {n lo hi : Int} (h : withinB n lo hi = true) : lo ≤ n ∧ n ≤ hi := by simpa [withinB] using h
structure Entry.Fine (e : Entry) : Prop where
  r : 1 ≤ e.root.size ∧ e.root.size ≤ 8
  k : 1 ≤ e.kind ∧ e.kind ≤ 9
  c : e.cls.size ≤ 8
  w : 0 ≤ e.weight ∧ e.weight ≤ 1000
structure Ending.Fine (e : Ending) : Prop where
  k : 1 ≤ e.kind ∧ e.kind ≤ 9
  t : 1 ≤ e.text.size ∧ e.text.size ≤ 4
  n : 1 ≤ e.name.size ∧ e.name.size ≤ 8
  w : 0 ≤ e.weight ∧ e.weight ≤ 1000
structure Clitic.Fine (e : Clitic) : Prop where
  t : 1 ≤ e.text.size ∧ e.text.size ≤ 4
  n : 1 ≤ e.name.size ∧ e.name.size ≤ 8
  w : 0 ≤ e.weight ∧ e.weight ≤ 1000
theorem Entry.fine {e : Entry} (h : Entry.ok e = true) : Entry.Fine e := by
  simp only [Entry.ok, Bool.and_eq_true, Bool.or_eq_true] at h
  obtain ⟨⟨⟨h1, h2⟩, h3⟩, h4⟩ := h
  have s := sounds_size h1
  refine ⟨by omega, within_of h2, ?_, within_of h4⟩
  rcases h3 with h3 | h3
  · have : e.cls.size = 0 := by
      have h5 := List.isEmpty_iff.1 h3
      rw [Go.Lib.toList_data] at h5
      have h6 : e.cls.data.toList.length = e.cls.size := rfl
      rw [h5] at h6
      exact h6.symm
    omega
  · exact (name_size h3).2
theorem Ending.fine {e : Ending} (h : Ending.ok e = true) : Ending.Fine e := by
  simp only [Ending.ok, Bool.and_eq_true] at h
  obtain ⟨⟨⟨h1, h2⟩, h3⟩, h4⟩ := h
  have s := sounds_size h2
  exact ⟨within_of h1, by omega, name_size h3, within_of h4⟩
theorem Clitic.fine {e : Clitic} (h : Clitic.ok e = true) : Clitic.Fine e := by
  simp only [Clitic.ok, Bool.and_eq_true] at h
  obtain ⟨⟨h1, h2⟩, h3⟩ := h
  have s := sounds_size h1
  exact ⟨by omega, name_size h2, within_of h3⟩
theorem itoa_len {n : Int} (h : 0 ≤ n ∧ n ≤ 1000) : (Go.Lib.itoa n).length ≤ 21 := Go.Lib.itoa_length_le n (by omega) (by omega)
theorem line_len {ws : List (List UInt8)} (h : ∀ w ∈ ws, w.length ≤ 21) (hn : ws.length ≤ 5) : (lineL ws).length ≤ 120 := by
  have h1 := join_length [32] ws
  have h2 : (ws.map (·.length)).sum ≤ ws.length * 21 := by
    clear hn h1
    induction ws with
    | nil => simp
    | cons a r ih =>
      have := ih fun w hw => h w (by simp [hw])
      have h3 := h a (by simp)
      simp only [List.map_cons, List.sum_cons, List.length_cons]
      omega
  unfold lineL
  rw [List.length_append]
  simp only [List.length_singleton] at h1 ⊢
  omega
theorem dash_len (c : ByteArray) (h : c.size ≤ 8) : (dashB c).data.toList.length ≤ 8 := by
  unfold dashB
  split
  · show 1 ≤ 8; omega
  · exact h
theorem word_len {e : Entry} (h : Entry.Fine e) : (lineL (wordL e)).length ≤ 120 := line_len (by
  intro w hw
  simp only [wordL, List.mem_cons, List.not_mem_nil, or_false] at hw
  have h1 := dash_len e.cls h.c
  have h2 := itoa_len (n := e.kind) ⟨by have := h.k; omega, by have := h.k; omega⟩
  have h3 := itoa_len h.w
  have h4 : e.root.data.toList.length = e.root.size := rfl
  have h5 := h.r
  rcases hw with rfl | rfl | rfl | rfl | rfl <;> first | (simp; done) | omega) (by simp [wordL])
theorem ending_len {e : Ending} (h : Ending.Fine e) : (lineL (endingL e)).length ≤ 120 := line_len (by
  intro w hw
  simp only [endingL, List.mem_cons, List.not_mem_nil, or_false] at hw
  have h2 := itoa_len (n := e.kind) ⟨by have := h.k; omega, by have := h.k; omega⟩
  have h3 := itoa_len h.w
  have h4 : e.text.data.toList.length = e.text.size := rfl
  have h5 := h.t
  have h6 : e.name.data.toList.length = e.name.size := rfl
  have h7 := h.n
  rcases hw with rfl | rfl | rfl | rfl | rfl <;> first | (simp; done) | omega) (by simp [endingL])
theorem clitic_len {e : Clitic} (h : Clitic.Fine e) : (lineL (cliticL e)).length ≤ 120 := line_len (by
  intro w hw
  simp only [cliticL, List.mem_cons, List.not_mem_nil, or_false] at hw
  have h3 := itoa_len h.w
  have h4 : e.text.data.toList.length = e.text.size := rfl
  have h5 := h.t
  have h6 : e.name.data.toList.length = e.name.size := rfl
  have h7 := h.n
  rcases hw with rfl | rfl | rfl | rfl <;> first | (simp; done) | omega) (by simp [cliticL])
theorem flat_len {α : Type} {f : α → List UInt8} : ∀ {l : List α}, (∀ a ∈ l, (f a).length ≤ 120) → (l.flatMap f).length ≤ l.length * 120
  | [], _ => by simp
  | a :: r, h => by
    have h1 := flat_len (l := r) fun b hb => h b (by simp [hb])
    have h2 := h a (by simp)
    simp only [List.flatMap_cons, List.length_append, List.length_cons]
    omega
theorem flat_take {α : Type} {f : α → List UInt8} {l : List α} {k : Nat} {a : α} (h : l[k]? = some a) : (l.take (k + 1)).flatMap f = (l.take k).flatMap f ++ f a := by
  obtain ⟨hk, rfl⟩ := List.getElem?_eq_some_iff.1 h
  rw [List.take_succ_eq_append_getElem hk, List.flatMap_append, List.flatMap_singleton]
theorem flat_take_len {α : Type} {f : α → List UInt8} {l : List α} (k : Nat) (h : ∀ a ∈ l, (f a).length ≤ 120) : ((l.take k).flatMap f).length ≤ l.length * 120 := by
  have h1 := flat_len (f := f) (l := l.take k) fun a ha => h a (List.mem_of_mem_take ha)
  have h2 : (l.take k).length ≤ l.length := by rw [List.length_take]; omega
  omega
end Lx
