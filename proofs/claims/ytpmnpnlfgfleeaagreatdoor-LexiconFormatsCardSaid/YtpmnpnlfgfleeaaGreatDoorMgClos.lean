/- The closures of Check; slices.IndexFunc and slices.ContainsFunc at the three element types. Made by gen_clos.py. -/
import Derived.Test.YtpmnpnlfgfleeaaGreatDoorMgLeaf
import Derived.Test.YtpmnpnlfgfleeaaGreatDoorMgRead
import Derived.Deep.LoopGhost
import Derived.Deep.Light
namespace Go.Proofs.YtpmnpnlfgfleeaaGreatDoor
open Go.RowKit

/-- the place of the first one that p takes; -1: none -/
def idxOf {α : Type} (p : α → Bool) (xs : List α) : Int := match xs.findIdx? p with
  | some i => (i : Int)
  | none => -1
theorem idxOf_at {α : Type} {p : α → Bool} {xs : List α} {k : Nat} {y : α} (hy : xs[k]? = some y) (hp : p y = true) (hb : ∀ j z, j < k → xs[j]? = some z → p z = false) : idxOf p xs = (k : Int) := by
  have : xs.findIdx? p = some k := by
    obtain ⟨hl, rfl⟩ := List.getElem?_eq_some_iff.1 hy
    rw [List.findIdx?_eq_some_iff_getElem]
    exact ⟨hl, hp, fun j hj => by rw [hb j _ hj (List.getElem?_eq_getElem (by omega))]; simp⟩
  simp [idxOf, this]
theorem idxOf_none {α : Type} {p : α → Bool} {xs : List α} (hb : ∀ j z, j < xs.length → xs[j]? = some z → p z = false) : idxOf p xs = -1 := by
  have : xs.findIdx? p = none := by
    rw [List.findIdx?_eq_none_iff]
    intro x hx
    obtain ⟨j, hj, rfl⟩ := List.mem_iff_getElem.1 hx
    rw [hb j _ hj (List.getElem?_eq_getElem hj)]
  simp [idxOf, this]
theorem idxOf_ge {α : Type} (p : α → Bool) (xs : List α) : decide (0 ≤ idxOf p xs) = xs.any p := by
  unfold idxOf
  cases h : xs.findIdx? p with
  | none =>
    rw [List.findIdx?_eq_none_iff] at h
    simp only [show ¬ (0 : Int) ≤ -1 by omega, decide_false]
    exact (List.any_eq_false.2 (fun x hx => by simp [h x hx])).symm
  | some i =>
    obtain ⟨hl, hp, _⟩ := List.findIdx?_eq_some_iff_getElem.1 h
    simp only [show (0 : Int) ≤ (i : Int) by omega, decide_true]
    exact (List.any_eq_true.2 ⟨xs[i], List.getElem_mem hl, hp⟩).symm
def RetIB (n : Int) (w : World) (e : Ending) (w' : World) : Prop := e = .returned (.int .i64 n) ∧ Below w.heap.size w w'

theorem rds_take {α : Type} {w : World} {B size : Nat} {enc : α → List Value} {A : Option Addr} {n c k : Nat} {xs : List α} (h : RdS w B size enc (.slice A n c) xs) (hk : k ≤ n) : RdS w B size enc (.slice A k c) (xs.take k) := by
  obtain ⟨A', c', hv, hl, hc, hh⟩ := h
  injection hv with h1 h2 h3
  subst h1 h2 h3
  refine ⟨A, c, by rw [List.length_take, Nat.min_eq_left hk], by rw [List.length_take]; omega, hc, fun h0 => ?_⟩
  obtain ⟨b, off, hA, hb, hcell⟩ := hh (by rw [List.length_take] at h0; omega)
  refine ⟨b, off, hA, hb, fun i x hx j u hu => hcell i x ?_ j u hu⟩
  by_cases hik : i < k
  · rwa [List.getElem?_take_of_lt hik] at hx
  · rw [List.getElem?_eq_none (by rw [List.length_take]; omega)] at hx; cases hx

theorem Check1_any (y e : Lx.Entry) (cb : Nat) (w : World) (hcb : cb < w.heap.size) (h0 : w.cell? ⟨cb, 0, none⟩ = some (.string e.root)) (h1 : w.cell? ⟨cb, 1, none⟩ = some (.int .i64 e.kind)) (h2 : w.cell? ⟨cb, 2, none⟩ = some (.string e.cls)) :
    Calls Tryz.prog 68 #[.agg #[.string y.root, .int .i64 y.kind, .string y.cls, .int .i64 y.weight], .pointer (some ⟨cb, 0, none⟩)] w (RetBB (Lx.Entry.same y e) w) := by
  go_enter Tryz.func68, Tryz.ntmps68
  go_wp2_with fail
  all_goals
    go_ret
    go_light
    refine ⟨ret_bool ?_, (Below.refl _ _).alloc (Nat.le_refl _) _⟩
    first | (simp [Lx.Entry.same, *]; done) | (simp [Lx.Entry.same, *]; rw [Bool.eq_iff_iff]; simp)

theorem Check1_call (e : Lx.Entry) (wr W : World) (t : TypeId) (hB : Below (wr.alloc (.cells #[.string e.root, .int .i64 e.kind, .string e.cls, .int .i64 e.weight] t)).heap.size (wr.alloc (.cells #[.string e.root, .int .i64 e.kind, .string e.cls, .int .i64 e.weight] t)) W) (xs : List Lx.Entry) :
    ∀ (w' : World) (y : Lx.Entry), y ∈ xs → Below W.heap.size W w' → Calls Tryz.prog 68 #[.agg #[.string y.root, .int .i64 y.kind, .string y.cls, .int .i64 y.weight], .pointer (some ⟨wr.heap.size, 0, none⟩)] w' (RetBB (Lx.Entry.same y e) w') := by
  intro w' y _ hb
  have h := hB.trans (hb.mono hB.size)
  have hs : wr.heap.size < (wr.alloc (.cells #[.string e.root, .int .i64 e.kind, .string e.cls, .int .i64 e.weight] t)).heap.size := by simp
  exact Check1_any y e wr.heap.size w' (Nat.lt_of_lt_of_le hs h.size) ((h.cell hs).trans (by simp)) ((h.cell hs).trans (by simp)) ((h.cell hs).trans (by simp))

set_option maxHeartbeats 400000 in
theorem indexEntry_Check1 (cap : Value) (p : Lx.Entry → Bool) (xs : List Lx.Entry) (v : Value) (w : World) (hv : RdS w w.heap.size 4 encEntry v xs)
    (hcall : ∀ (w' : World) (y : Lx.Entry), y ∈ xs → Below w.heap.size w w' → Calls Tryz.prog 68 #[.agg #[.string y.root, .int .i64 y.kind, .string y.cls, .int .i64 y.weight], cap] w' (RetBB (p y) w')) :
    Calls Tryz.prog 95 #[v, .func (.func 68) #[] #[cap]] w (RetIB (idxOf p xs) w) := by
  obtain ⟨A0, c0, rfl, hl0, hm0, hc0⟩ := hv
  have hn0 : xs.length ≤ 9223372036854775807 := by omega
  have HC := Lib.hid hc0
  have HF := Lib.hid hcall
  clear hc0 hcall hm0
  go_enter Tryz.func95, Tryz.ntmps95
  go_wp2_with fail
  go_loopg [8] xs.length (fun g i wr => ∃ k : Nat, k ≤ xs.length ∧ g = xs.length - k ∧ i = .int .i64 k ∧ Below w.heap.size w wr ∧ ∀ j z, j < k → xs[j]? = some z → p z = false)
  case atStart => exact ⟨0, Nat.zero_le _, rfl, rfl, Below.refl _ _, fun j _ hj => absurd hj (Nat.not_lt_zero j)⟩
  case round =>
    obtain ⟨k, hk, rfl, rfl, hbel, hno⟩ := hrel
    have HB := Lib.hid hbel
    have HN := Lib.hid hno
    clear hbel hno
    by_cases hlt : k < xs.length
    · obtain ⟨b, off, rfl, hb, hcell⟩ := HC.out (by omega)
      obtain ⟨e, he⟩ : ∃ e, xs[k]? = some e := ⟨_, List.getElem?_eq_getElem hlt⟩
      have f0 : wr.cell? ⟨b, off + k * 4, none⟩ = some (.string e.root) := (HB.out.cell hb).trans (hcell k e he 0 _ rfl)
      have f1 : wr.cell? ⟨b, off + k * 4 + 1, none⟩ = some (.int .i64 e.kind) := (HB.out.cell hb).trans (hcell k e he 1 _ rfl)
      have f2 : wr.cell? ⟨b, off + k * 4 + 2, none⟩ = some (.string e.cls) := (HB.out.cell hb).trans (hcell k e he 2 _ rfl)
      have f3 : wr.cell? ⟨b, off + k * 4 + 3, none⟩ = some (.int .i64 e.weight) := (HB.out.cell hb).trans (hcell k e he 3 _ rfl)
      have HE := Lib.hid he
      clear he hcell
      go_wp2_with fail
      refine (HF.out wr e (List.mem_of_getElem? HE.out) HB.out).mono ?_
      cases hp : p e
      · have HN2 : Hid (∀ j z, j < k + 1 → xs[j]? = some z → p z = false) := by
          refine Lib.hid (fun j z hj hz => ?_)
          by_cases hjk : j = k
          · subst hjk; rw [HE.out] at hz; cases hz; exact hp
          · exact HN.out j z (by omega) hz
        clear hp
        rintro e1 w1 ⟨rfl, hb1⟩
        have HB1 := Lib.hid hb1
        clear hb1
        go_wp2_with fail
        go_roundg (xs.length - (k + 1))
        case measure => omega
        case rel => exact ⟨k + 1, by omega, rfl, by go_num, HB.out.trans (HB1.out.mono HB.out.size), HN2.out⟩
      · have HI := Lib.hid (idxOf_at HE.out hp HN.out)
        clear hp
        rintro e1 w1 ⟨rfl, hb1⟩
        have HB1 := Lib.hid hb1
        clear hb1
        go_wp2_with fail
        go_ret
        exact ⟨ret_int HI.out.symm, HB.out.trans (HB1.out.mono HB.out.size)⟩
    · have HI := Lib.hid (idxOf_none (p := p) (xs := xs) fun j z hj hz => HN.out j z (by omega) hz)
      go_wp2_with fail
      go_ret
      exact ⟨ret_int HI.out.symm, HB.out⟩

theorem containsEntry_Check1 (cap : Value) (p : Lx.Entry → Bool) (xs : List Lx.Entry) (v : Value) (w : World) (hv : RdS w w.heap.size 4 encEntry v xs)
    (hcall : ∀ (w' : World) (y : Lx.Entry), y ∈ xs → Below w.heap.size w w' → Calls Tryz.prog 68 #[.agg #[.string y.root, .int .i64 y.kind, .string y.cls, .int .i64 y.weight], cap] w' (RetBB (p y) w')) :
    Calls Tryz.prog 71 #[v, .func (.func 68) #[] #[cap]] w (RetBB (xs.any p) w) := by
  have HI := Lib.hid (indexEntry_Check1 cap p xs v w hv hcall)
  have HG := Lib.hid (idxOf_ge p xs)
  clear hcall hv
  go_enter Tryz.func71, Tryz.ntmps71
  go_wp2_with fail
  refine HI.out.mono ?_
  rintro e w' ⟨rfl, hb⟩
  have HB := Lib.hid hb
  clear hb
  go_wp2_with fail
  go_ret
  exact ⟨ret_bool HG.out, HB.out⟩

theorem Check2_any (y e : Lx.Ending) (cb : Nat) (w : World) (hcb : cb < w.heap.size) (h0 : w.cell? ⟨cb, 0, none⟩ = some (.int .i64 e.kind)) (h2 : w.cell? ⟨cb, 2, none⟩ = some (.string e.name)) :
    Calls Tryz.prog 72 #[.agg #[.int .i64 y.kind, .string y.text, .string y.name, .int .i64 y.weight], .pointer (some ⟨cb, 0, none⟩)] w (RetBB (Lx.Ending.same y e) w) := by
  go_enter Tryz.func72, Tryz.ntmps72
  go_wp2_with fail
  all_goals
    go_ret
    go_light
    refine ⟨ret_bool ?_, (Below.refl _ _).alloc (Nat.le_refl _) _⟩
    first | (simp [Lx.Ending.same, *]; done) | (simp [Lx.Ending.same, *]; rw [Bool.eq_iff_iff]; simp)

theorem Check2_call (e : Lx.Ending) (wr W : World) (t : TypeId) (hB : Below (wr.alloc (.cells #[.int .i64 e.kind, .string e.text, .string e.name, .int .i64 e.weight] t)).heap.size (wr.alloc (.cells #[.int .i64 e.kind, .string e.text, .string e.name, .int .i64 e.weight] t)) W) (xs : List Lx.Ending) :
    ∀ (w' : World) (y : Lx.Ending), y ∈ xs → Below W.heap.size W w' → Calls Tryz.prog 72 #[.agg #[.int .i64 y.kind, .string y.text, .string y.name, .int .i64 y.weight], .pointer (some ⟨wr.heap.size, 0, none⟩)] w' (RetBB (Lx.Ending.same y e) w') := by
  intro w' y _ hb
  have h := hB.trans (hb.mono hB.size)
  have hs : wr.heap.size < (wr.alloc (.cells #[.int .i64 e.kind, .string e.text, .string e.name, .int .i64 e.weight] t)).heap.size := by simp
  exact Check2_any y e wr.heap.size w' (Nat.lt_of_lt_of_le hs h.size) ((h.cell hs).trans (by simp)) ((h.cell hs).trans (by simp))

set_option maxHeartbeats 400000 in
theorem indexEnding_Check2 (cap : Value) (p : Lx.Ending → Bool) (xs : List Lx.Ending) (v : Value) (w : World) (hv : RdS w w.heap.size 4 encEnding v xs)
    (hcall : ∀ (w' : World) (y : Lx.Ending), y ∈ xs → Below w.heap.size w w' → Calls Tryz.prog 72 #[.agg #[.int .i64 y.kind, .string y.text, .string y.name, .int .i64 y.weight], cap] w' (RetBB (p y) w')) :
    Calls Tryz.prog 36 #[v, .func (.func 72) #[] #[cap]] w (RetIB (idxOf p xs) w) := by
  obtain ⟨A0, c0, rfl, hl0, hm0, hc0⟩ := hv
  have hn0 : xs.length ≤ 9223372036854775807 := by omega
  have HC := Lib.hid hc0
  have HF := Lib.hid hcall
  clear hc0 hcall hm0
  go_enter Tryz.func36, Tryz.ntmps36
  go_wp2_with fail
  go_loopg [8] xs.length (fun g i wr => ∃ k : Nat, k ≤ xs.length ∧ g = xs.length - k ∧ i = .int .i64 k ∧ Below w.heap.size w wr ∧ ∀ j z, j < k → xs[j]? = some z → p z = false)
  case atStart => exact ⟨0, Nat.zero_le _, rfl, rfl, Below.refl _ _, fun j _ hj => absurd hj (Nat.not_lt_zero j)⟩
  case round =>
    obtain ⟨k, hk, rfl, rfl, hbel, hno⟩ := hrel
    have HB := Lib.hid hbel
    have HN := Lib.hid hno
    clear hbel hno
    by_cases hlt : k < xs.length
    · obtain ⟨b, off, rfl, hb, hcell⟩ := HC.out (by omega)
      obtain ⟨e, he⟩ : ∃ e, xs[k]? = some e := ⟨_, List.getElem?_eq_getElem hlt⟩
      have f0 : wr.cell? ⟨b, off + k * 4, none⟩ = some (.int .i64 e.kind) := (HB.out.cell hb).trans (hcell k e he 0 _ rfl)
      have f1 : wr.cell? ⟨b, off + k * 4 + 1, none⟩ = some (.string e.text) := (HB.out.cell hb).trans (hcell k e he 1 _ rfl)
      have f2 : wr.cell? ⟨b, off + k * 4 + 2, none⟩ = some (.string e.name) := (HB.out.cell hb).trans (hcell k e he 2 _ rfl)
      have f3 : wr.cell? ⟨b, off + k * 4 + 3, none⟩ = some (.int .i64 e.weight) := (HB.out.cell hb).trans (hcell k e he 3 _ rfl)
      have HE := Lib.hid he
      clear he hcell
      go_wp2_with fail
      refine (HF.out wr e (List.mem_of_getElem? HE.out) HB.out).mono ?_
      cases hp : p e
      · have HN2 : Hid (∀ j z, j < k + 1 → xs[j]? = some z → p z = false) := by
          refine Lib.hid (fun j z hj hz => ?_)
          by_cases hjk : j = k
          · subst hjk; rw [HE.out] at hz; cases hz; exact hp
          · exact HN.out j z (by omega) hz
        clear hp
        rintro e1 w1 ⟨rfl, hb1⟩
        have HB1 := Lib.hid hb1
        clear hb1
        go_wp2_with fail
        go_roundg (xs.length - (k + 1))
        case measure => omega
        case rel => exact ⟨k + 1, by omega, rfl, by go_num, HB.out.trans (HB1.out.mono HB.out.size), HN2.out⟩
      · have HI := Lib.hid (idxOf_at HE.out hp HN.out)
        clear hp
        rintro e1 w1 ⟨rfl, hb1⟩
        have HB1 := Lib.hid hb1
        clear hb1
        go_wp2_with fail
        go_ret
        exact ⟨ret_int HI.out.symm, HB.out.trans (HB1.out.mono HB.out.size)⟩
    · have HI := Lib.hid (idxOf_none (p := p) (xs := xs) fun j z hj hz => HN.out j z (by omega) hz)
      go_wp2_with fail
      go_ret
      exact ⟨ret_int HI.out.symm, HB.out⟩

theorem containsEnding_Check2 (cap : Value) (p : Lx.Ending → Bool) (xs : List Lx.Ending) (v : Value) (w : World) (hv : RdS w w.heap.size 4 encEnding v xs)
    (hcall : ∀ (w' : World) (y : Lx.Ending), y ∈ xs → Below w.heap.size w w' → Calls Tryz.prog 72 #[.agg #[.int .i64 y.kind, .string y.text, .string y.name, .int .i64 y.weight], cap] w' (RetBB (p y) w')) :
    Calls Tryz.prog 73 #[v, .func (.func 72) #[] #[cap]] w (RetBB (xs.any p) w) := by
  have HI := Lib.hid (indexEnding_Check2 cap p xs v w hv hcall)
  have HG := Lib.hid (idxOf_ge p xs)
  clear hcall hv
  go_enter Tryz.func73, Tryz.ntmps73
  go_wp2_with fail
  refine HI.out.mono ?_
  rintro e w' ⟨rfl, hb⟩
  have HB := Lib.hid hb
  clear hb
  go_wp2_with fail
  go_ret
  exact ⟨ret_bool HG.out, HB.out⟩

set_option maxHeartbeats 400000 in
theorem indexEnding_ParseGloss1 (cap : Value) (p : Lx.Ending → Bool) (xs : List Lx.Ending) (v : Value) (w : World) (hv : RdS w w.heap.size 4 encEnding v xs)
    (hcall : ∀ (w' : World) (y : Lx.Ending), y ∈ xs → Below w.heap.size w w' → Calls Tryz.prog 37 #[.agg #[.int .i64 y.kind, .string y.text, .string y.name, .int .i64 y.weight], cap] w' (RetBB (p y) w')) :
    Calls Tryz.prog 36 #[v, .func (.func 37) #[] #[cap]] w (RetIB (idxOf p xs) w) := by
  obtain ⟨A0, c0, rfl, hl0, hm0, hc0⟩ := hv
  have hn0 : xs.length ≤ 9223372036854775807 := by omega
  have HC := Lib.hid hc0
  have HF := Lib.hid hcall
  clear hc0 hcall hm0
  go_enter Tryz.func36, Tryz.ntmps36
  go_wp2_with fail
  go_loopg [8] xs.length (fun g i wr => ∃ k : Nat, k ≤ xs.length ∧ g = xs.length - k ∧ i = .int .i64 k ∧ Below w.heap.size w wr ∧ ∀ j z, j < k → xs[j]? = some z → p z = false)
  case atStart => exact ⟨0, Nat.zero_le _, rfl, rfl, Below.refl _ _, fun j _ hj => absurd hj (Nat.not_lt_zero j)⟩
  case round =>
    obtain ⟨k, hk, rfl, rfl, hbel, hno⟩ := hrel
    have HB := Lib.hid hbel
    have HN := Lib.hid hno
    clear hbel hno
    by_cases hlt : k < xs.length
    · obtain ⟨b, off, rfl, hb, hcell⟩ := HC.out (by omega)
      obtain ⟨e, he⟩ : ∃ e, xs[k]? = some e := ⟨_, List.getElem?_eq_getElem hlt⟩
      have f0 : wr.cell? ⟨b, off + k * 4, none⟩ = some (.int .i64 e.kind) := (HB.out.cell hb).trans (hcell k e he 0 _ rfl)
      have f1 : wr.cell? ⟨b, off + k * 4 + 1, none⟩ = some (.string e.text) := (HB.out.cell hb).trans (hcell k e he 1 _ rfl)
      have f2 : wr.cell? ⟨b, off + k * 4 + 2, none⟩ = some (.string e.name) := (HB.out.cell hb).trans (hcell k e he 2 _ rfl)
      have f3 : wr.cell? ⟨b, off + k * 4 + 3, none⟩ = some (.int .i64 e.weight) := (HB.out.cell hb).trans (hcell k e he 3 _ rfl)
      have HE := Lib.hid he
      clear he hcell
      go_wp2_with fail
      refine (HF.out wr e (List.mem_of_getElem? HE.out) HB.out).mono ?_
      cases hp : p e
      · have HN2 : Hid (∀ j z, j < k + 1 → xs[j]? = some z → p z = false) := by
          refine Lib.hid (fun j z hj hz => ?_)
          by_cases hjk : j = k
          · subst hjk; rw [HE.out] at hz; cases hz; exact hp
          · exact HN.out j z (by omega) hz
        clear hp
        rintro e1 w1 ⟨rfl, hb1⟩
        have HB1 := Lib.hid hb1
        clear hb1
        go_wp2_with fail
        go_roundg (xs.length - (k + 1))
        case measure => omega
        case rel => exact ⟨k + 1, by omega, rfl, by go_num, HB.out.trans (HB1.out.mono HB.out.size), HN2.out⟩
      · have HI := Lib.hid (idxOf_at HE.out hp HN.out)
        clear hp
        rintro e1 w1 ⟨rfl, hb1⟩
        have HB1 := Lib.hid hb1
        clear hb1
        go_wp2_with fail
        go_ret
        exact ⟨ret_int HI.out.symm, HB.out.trans (HB1.out.mono HB.out.size)⟩
    · have HI := Lib.hid (idxOf_none (p := p) (xs := xs) fun j z hj hz => HN.out j z (by omega) hz)
      go_wp2_with fail
      go_ret
      exact ⟨ret_int HI.out.symm, HB.out⟩

theorem containsEnding_ParseGloss1 (cap : Value) (p : Lx.Ending → Bool) (xs : List Lx.Ending) (v : Value) (w : World) (hv : RdS w w.heap.size 4 encEnding v xs)
    (hcall : ∀ (w' : World) (y : Lx.Ending), y ∈ xs → Below w.heap.size w w' → Calls Tryz.prog 37 #[.agg #[.int .i64 y.kind, .string y.text, .string y.name, .int .i64 y.weight], cap] w' (RetBB (p y) w')) :
    Calls Tryz.prog 73 #[v, .func (.func 37) #[] #[cap]] w (RetBB (xs.any p) w) := by
  have HI := Lib.hid (indexEnding_ParseGloss1 cap p xs v w hv hcall)
  have HG := Lib.hid (idxOf_ge p xs)
  clear hcall hv
  go_enter Tryz.func73, Tryz.ntmps73
  go_wp2_with fail
  refine HI.out.mono ?_
  rintro e w' ⟨rfl, hb⟩
  have HB := Lib.hid hb
  clear hb
  go_wp2_with fail
  go_ret
  exact ⟨ret_bool HG.out, HB.out⟩

theorem Check3_any (y e : Lx.Clitic) (cb : Nat) (w : World) (hcb : cb < w.heap.size) (h1 : w.cell? ⟨cb, 1, none⟩ = some (.string e.name)) :
    Calls Tryz.prog 74 #[.agg #[.string y.text, .string y.name, .int .i64 y.weight], .pointer (some ⟨cb, 0, none⟩)] w (RetBB (Lx.Clitic.same y e) w) := by
  go_enter Tryz.func74, Tryz.ntmps74
  go_wp2_with fail
  all_goals
    go_ret
    go_light
    refine ⟨ret_bool ?_, (Below.refl _ _).alloc (Nat.le_refl _) _⟩
    first | (simp [Lx.Clitic.same, *]; done) | (simp [Lx.Clitic.same, *]; rw [Bool.eq_iff_iff]; simp)

theorem Check3_call (e : Lx.Clitic) (wr W : World) (t : TypeId) (hB : Below (wr.alloc (.cells #[.string e.text, .string e.name, .int .i64 e.weight] t)).heap.size (wr.alloc (.cells #[.string e.text, .string e.name, .int .i64 e.weight] t)) W) (xs : List Lx.Clitic) :
    ∀ (w' : World) (y : Lx.Clitic), y ∈ xs → Below W.heap.size W w' → Calls Tryz.prog 74 #[.agg #[.string y.text, .string y.name, .int .i64 y.weight], .pointer (some ⟨wr.heap.size, 0, none⟩)] w' (RetBB (Lx.Clitic.same y e) w') := by
  intro w' y _ hb
  have h := hB.trans (hb.mono hB.size)
  have hs : wr.heap.size < (wr.alloc (.cells #[.string e.text, .string e.name, .int .i64 e.weight] t)).heap.size := by simp
  exact Check3_any y e wr.heap.size w' (Nat.lt_of_lt_of_le hs h.size) ((h.cell hs).trans (by simp))

set_option maxHeartbeats 400000 in
theorem indexClitic_Check3 (cap : Value) (p : Lx.Clitic → Bool) (xs : List Lx.Clitic) (v : Value) (w : World) (hv : RdS w w.heap.size 3 encClitic v xs)
    (hcall : ∀ (w' : World) (y : Lx.Clitic), y ∈ xs → Below w.heap.size w w' → Calls Tryz.prog 74 #[.agg #[.string y.text, .string y.name, .int .i64 y.weight], cap] w' (RetBB (p y) w')) :
    Calls Tryz.prog 38 #[v, .func (.func 74) #[] #[cap]] w (RetIB (idxOf p xs) w) := by
  obtain ⟨A0, c0, rfl, hl0, hm0, hc0⟩ := hv
  have hn0 : xs.length ≤ 9223372036854775807 := by omega
  have HC := Lib.hid hc0
  have HF := Lib.hid hcall
  clear hc0 hcall hm0
  go_enter Tryz.func38, Tryz.ntmps38
  go_wp2_with fail
  go_loopg [8] xs.length (fun g i wr => ∃ k : Nat, k ≤ xs.length ∧ g = xs.length - k ∧ i = .int .i64 k ∧ Below w.heap.size w wr ∧ ∀ j z, j < k → xs[j]? = some z → p z = false)
  case atStart => exact ⟨0, Nat.zero_le _, rfl, rfl, Below.refl _ _, fun j _ hj => absurd hj (Nat.not_lt_zero j)⟩
  case round =>
    obtain ⟨k, hk, rfl, rfl, hbel, hno⟩ := hrel
    have HB := Lib.hid hbel
    have HN := Lib.hid hno
    clear hbel hno
    by_cases hlt : k < xs.length
    · obtain ⟨b, off, rfl, hb, hcell⟩ := HC.out (by omega)
      obtain ⟨e, he⟩ : ∃ e, xs[k]? = some e := ⟨_, List.getElem?_eq_getElem hlt⟩
      have f0 : wr.cell? ⟨b, off + k * 3, none⟩ = some (.string e.text) := (HB.out.cell hb).trans (hcell k e he 0 _ rfl)
      have f1 : wr.cell? ⟨b, off + k * 3 + 1, none⟩ = some (.string e.name) := (HB.out.cell hb).trans (hcell k e he 1 _ rfl)
      have f2 : wr.cell? ⟨b, off + k * 3 + 2, none⟩ = some (.int .i64 e.weight) := (HB.out.cell hb).trans (hcell k e he 2 _ rfl)
      have HE := Lib.hid he
      clear he hcell
      go_wp2_with fail
      refine (HF.out wr e (List.mem_of_getElem? HE.out) HB.out).mono ?_
      cases hp : p e
      · have HN2 : Hid (∀ j z, j < k + 1 → xs[j]? = some z → p z = false) := by
          refine Lib.hid (fun j z hj hz => ?_)
          by_cases hjk : j = k
          · subst hjk; rw [HE.out] at hz; cases hz; exact hp
          · exact HN.out j z (by omega) hz
        clear hp
        rintro e1 w1 ⟨rfl, hb1⟩
        have HB1 := Lib.hid hb1
        clear hb1
        go_wp2_with fail
        go_roundg (xs.length - (k + 1))
        case measure => omega
        case rel => exact ⟨k + 1, by omega, rfl, by go_num, HB.out.trans (HB1.out.mono HB.out.size), HN2.out⟩
      · have HI := Lib.hid (idxOf_at HE.out hp HN.out)
        clear hp
        rintro e1 w1 ⟨rfl, hb1⟩
        have HB1 := Lib.hid hb1
        clear hb1
        go_wp2_with fail
        go_ret
        exact ⟨ret_int HI.out.symm, HB.out.trans (HB1.out.mono HB.out.size)⟩
    · have HI := Lib.hid (idxOf_none (p := p) (xs := xs) fun j z hj hz => HN.out j z (by omega) hz)
      go_wp2_with fail
      go_ret
      exact ⟨ret_int HI.out.symm, HB.out⟩

theorem containsClitic_Check3 (cap : Value) (p : Lx.Clitic → Bool) (xs : List Lx.Clitic) (v : Value) (w : World) (hv : RdS w w.heap.size 3 encClitic v xs)
    (hcall : ∀ (w' : World) (y : Lx.Clitic), y ∈ xs → Below w.heap.size w w' → Calls Tryz.prog 74 #[.agg #[.string y.text, .string y.name, .int .i64 y.weight], cap] w' (RetBB (p y) w')) :
    Calls Tryz.prog 75 #[v, .func (.func 74) #[] #[cap]] w (RetBB (xs.any p) w) := by
  have HI := Lib.hid (indexClitic_Check3 cap p xs v w hv hcall)
  have HG := Lib.hid (idxOf_ge p xs)
  clear hcall hv
  go_enter Tryz.func75, Tryz.ntmps75
  go_wp2_with fail
  refine HI.out.mono ?_
  rintro e w' ⟨rfl, hb⟩
  have HB := Lib.hid hb
  clear hb
  go_wp2_with fail
  go_ret
  exact ⟨ret_bool HG.out, HB.out⟩

set_option maxHeartbeats 400000 in
theorem indexClitic_ParseGloss2 (cap : Value) (p : Lx.Clitic → Bool) (xs : List Lx.Clitic) (v : Value) (w : World) (hv : RdS w w.heap.size 3 encClitic v xs)
    (hcall : ∀ (w' : World) (y : Lx.Clitic), y ∈ xs → Below w.heap.size w w' → Calls Tryz.prog 39 #[.agg #[.string y.text, .string y.name, .int .i64 y.weight], cap] w' (RetBB (p y) w')) :
    Calls Tryz.prog 38 #[v, .func (.func 39) #[] #[cap]] w (RetIB (idxOf p xs) w) := by
  obtain ⟨A0, c0, rfl, hl0, hm0, hc0⟩ := hv
  have hn0 : xs.length ≤ 9223372036854775807 := by omega
  have HC := Lib.hid hc0
  have HF := Lib.hid hcall
  clear hc0 hcall hm0
  go_enter Tryz.func38, Tryz.ntmps38
  go_wp2_with fail
  go_loopg [8] xs.length (fun g i wr => ∃ k : Nat, k ≤ xs.length ∧ g = xs.length - k ∧ i = .int .i64 k ∧ Below w.heap.size w wr ∧ ∀ j z, j < k → xs[j]? = some z → p z = false)
  case atStart => exact ⟨0, Nat.zero_le _, rfl, rfl, Below.refl _ _, fun j _ hj => absurd hj (Nat.not_lt_zero j)⟩
  case round =>
    obtain ⟨k, hk, rfl, rfl, hbel, hno⟩ := hrel
    have HB := Lib.hid hbel
    have HN := Lib.hid hno
    clear hbel hno
    by_cases hlt : k < xs.length
    · obtain ⟨b, off, rfl, hb, hcell⟩ := HC.out (by omega)
      obtain ⟨e, he⟩ : ∃ e, xs[k]? = some e := ⟨_, List.getElem?_eq_getElem hlt⟩
      have f0 : wr.cell? ⟨b, off + k * 3, none⟩ = some (.string e.text) := (HB.out.cell hb).trans (hcell k e he 0 _ rfl)
      have f1 : wr.cell? ⟨b, off + k * 3 + 1, none⟩ = some (.string e.name) := (HB.out.cell hb).trans (hcell k e he 1 _ rfl)
      have f2 : wr.cell? ⟨b, off + k * 3 + 2, none⟩ = some (.int .i64 e.weight) := (HB.out.cell hb).trans (hcell k e he 2 _ rfl)
      have HE := Lib.hid he
      clear he hcell
      go_wp2_with fail
      refine (HF.out wr e (List.mem_of_getElem? HE.out) HB.out).mono ?_
      cases hp : p e
      · have HN2 : Hid (∀ j z, j < k + 1 → xs[j]? = some z → p z = false) := by
          refine Lib.hid (fun j z hj hz => ?_)
          by_cases hjk : j = k
          · subst hjk; rw [HE.out] at hz; cases hz; exact hp
          · exact HN.out j z (by omega) hz
        clear hp
        rintro e1 w1 ⟨rfl, hb1⟩
        have HB1 := Lib.hid hb1
        clear hb1
        go_wp2_with fail
        go_roundg (xs.length - (k + 1))
        case measure => omega
        case rel => exact ⟨k + 1, by omega, rfl, by go_num, HB.out.trans (HB1.out.mono HB.out.size), HN2.out⟩
      · have HI := Lib.hid (idxOf_at HE.out hp HN.out)
        clear hp
        rintro e1 w1 ⟨rfl, hb1⟩
        have HB1 := Lib.hid hb1
        clear hb1
        go_wp2_with fail
        go_ret
        exact ⟨ret_int HI.out.symm, HB.out.trans (HB1.out.mono HB.out.size)⟩
    · have HI := Lib.hid (idxOf_none (p := p) (xs := xs) fun j z hj hz => HN.out j z (by omega) hz)
      go_wp2_with fail
      go_ret
      exact ⟨ret_int HI.out.symm, HB.out⟩

theorem containsClitic_ParseGloss2 (cap : Value) (p : Lx.Clitic → Bool) (xs : List Lx.Clitic) (v : Value) (w : World) (hv : RdS w w.heap.size 3 encClitic v xs)
    (hcall : ∀ (w' : World) (y : Lx.Clitic), y ∈ xs → Below w.heap.size w w' → Calls Tryz.prog 39 #[.agg #[.string y.text, .string y.name, .int .i64 y.weight], cap] w' (RetBB (p y) w')) :
    Calls Tryz.prog 75 #[v, .func (.func 39) #[] #[cap]] w (RetBB (xs.any p) w) := by
  have HI := Lib.hid (indexClitic_ParseGloss2 cap p xs v w hv hcall)
  have HG := Lib.hid (idxOf_ge p xs)
  clear hcall hv
  go_enter Tryz.func75, Tryz.ntmps75
  go_wp2_with fail
  refine HI.out.mono ?_
  rintro e w' ⟨rfl, hb⟩
  have HB := Lib.hid hb
  clear hb
  go_wp2_with fail
  go_ret
  exact ⟨ret_bool HG.out, HB.out⟩
end Go.Proofs.YtpmnpnlfgfleeaaGreatDoor
