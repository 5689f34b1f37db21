/- The closures of ParseGloss, slices.IndexFunc with the first of them. Made by gen_parseidx.py. -/
import Derived.Test.YtpmfjndbckblfaaDoorMgClos
import Derived.Test.YtpmfjndbckblfaaDoorParsePlain
namespace Go.Proofs.YtpmfjndbckblfaaDoor
open Go.RowKit

set_option maxRecDepth 100000 in
theorem ParseGloss1_any (y : Lx.Ending) (k : Int) (nm : ByteArray) (eb nb : Nat) (w : World) (heb : eb < w.heap.size) (hnb : nb < w.heap.size) (h1 : w.cell? ⟨eb, 1, none⟩ = some (.int .i64 k)) (h2 : w.cell? ⟨nb, 0, none⟩ = some (.string nm)) :
    Calls Tryd.prog 88 #[.agg #[.int .i64 y.kind, .string y.text, .string y.name, .int .i64 y.weight], .pointer (some ⟨eb, 0, none⟩), .pointer (some ⟨nb, 0, none⟩)] w (RetBB (Lx.pE k nm y) w) := by
  by_cases e1 : y.kind = k
  · by_cases e2 : y.name = nm
    · have hp : Lx.pE k nm y = true := by simp [Lx.pE, e1, e2]
      rw [hp]
      subst e1 e2
      go_enter Tryd.func88, Tryd.ntmps88
      go_wp2_with fail
      go_ret
      exact ⟨rfl, (Below.refl _ _).alloc (Nat.le_refl _) _⟩
    · have hp : Lx.pE k nm y = false := by simp [Lx.pE, e2]
      rw [hp]
      subst e1
      have e5 : ¬ y.name.toList = nm.toList := by simpa using Lx.toList_ne e2
      clear hp
      go_enter Tryd.func88, Tryd.ntmps88
      go_wp2_with fail
      go_ret
      exact ⟨by simp [e5], (Below.refl _ _).alloc (Nat.le_refl _) _⟩
  · have hp : Lx.pE k nm y = false := by simp [Lx.pE, e1]
    rw [hp]
    clear hp
    go_enter Tryd.func88, Tryd.ntmps88
    go_wp2_with fail
    go_ret
    exact ⟨rfl, (Below.refl _ _).alloc (Nat.le_refl _) _⟩
set_option maxRecDepth 100000 in
theorem ParseGloss2_any (y : Lx.Clitic) (nm : ByteArray) (nb : Nat) (w : World) (hnb : nb < w.heap.size) (h2 : w.cell? ⟨nb, 0, none⟩ = some (.string nm)) :
    Calls Tryd.prog 90 #[.agg #[.string y.text, .string y.name, .int .i64 y.weight], .pointer (some ⟨nb, 0, none⟩)] w (RetBB (Lx.pC nm y) w) := by
  by_cases e2 : y.name = nm
  · have hp : Lx.pC nm y = true := by simp [Lx.pC, e2]
    rw [hp]
    subst e2
    go_enter Tryd.func90, Tryd.ntmps90
    go_wp2_with fail
    go_ret
    exact ⟨rfl, (Below.refl _ _).alloc (Nat.le_refl _) _⟩
  · have hp : Lx.pC nm y = false := by simp [Lx.pC, e2]
    rw [hp]
    have e5 : ¬ y.name.toList = nm.toList := by simpa using Lx.toList_ne e2
    clear hp
    go_enter Tryd.func90, Tryd.ntmps90
    go_wp2_with fail
    go_ret
    exact ⟨by simp [e5], (Below.refl _ _).alloc (Nat.le_refl _) _⟩
set_option maxHeartbeats 400000 in
theorem indexEnding_PG (cap cap2 : Value) (p : Lx.Ending → Bool) (xs : List Lx.Ending) (v : Value) (w : World) (hv : RdS w w.heap.size 4 encEnding v xs)
    (hcall : ∀ (w' : World) (y : Lx.Ending), y ∈ xs → Below w.heap.size w w' → Calls Tryd.prog 88 #[.agg #[.int .i64 y.kind, .string y.text, .string y.name, .int .i64 y.weight], cap, cap2] w' (RetBB (p y) w')) :
    Calls Tryd.prog 87 #[v, .func (.func 88) #[] #[cap, cap2]] w (RetIB (idxOf p xs) w) := by
  obtain ⟨A0, c0, rfl, hl0, hm0, hc0⟩ := hv
  have hn0 : xs.length ≤ 9223372036854775807 := by omega
  have HC := Lib.hid hc0
  have HF := Lib.hid hcall
  clear hc0 hcall hm0
  go_enter Tryd.func87, Tryd.ntmps87
  go_wp2_with fail
  go_loopg [8] xs.length (fun g i wr => ∃ k : Nat, k ≤ xs.length ∧ g = xs.length - k ∧ i = .int .i64 k ∧ Below w.heap.size w wr ∧ ∀ j z, j < k → xs[j]? = some z → p z = false)
  case atStart => exact ⟨0, Nat.zero_le _, rfl, rfl, Below.refl _ _, fun j _ hj => absurd hj (Nat.not_lt_zero j)⟩
  case round =>
    obtain ⟨k, hk, rfl, rfl, hbel, hno⟩ := hrel
    have HB := Lib.hid hbel
    have HN := Lib.hid hno
    clear hbel hno
    by_cases hlt : k < xs.length
    · obtain ⟨b, off, rfl, hb, hcell⟩ := HC.out (by omega)
      obtain ⟨e, he⟩ : ∃ e, xs[k]? = some e := ⟨_, List.getElem?_eq_getElem hlt⟩
      have f0 : wr.cell? ⟨b, off + k * 4, none⟩ = some (.int .i64 e.kind) := (HB.out.cell hb).trans (hcell k e he 0 _ rfl)
      have f1 : wr.cell? ⟨b, off + k * 4 + 1, none⟩ = some (.string e.text) := (HB.out.cell hb).trans (hcell k e he 1 _ rfl)
      have f2 : wr.cell? ⟨b, off + k * 4 + 2, none⟩ = some (.string e.name) := (HB.out.cell hb).trans (hcell k e he 2 _ rfl)
      have f3 : wr.cell? ⟨b, off + k * 4 + 3, none⟩ = some (.int .i64 e.weight) := (HB.out.cell hb).trans (hcell k e he 3 _ rfl)
      have HE := Lib.hid he
      clear he hcell
      go_wp2_with fail
      refine (HF.out wr e (List.mem_of_getElem? HE.out) HB.out).mono ?_
      cases hp : p e
      · have HN2 : Hid (∀ j z, j < k + 1 → xs[j]? = some z → p z = false) := by
          refine Lib.hid (fun j z hj hz => ?_)
          by_cases hjk : j = k
          · subst hjk; rw [HE.out] at hz; cases hz; exact hp
          · exact HN.out j z (by omega) hz
        clear hp
        rintro e1 w1 ⟨rfl, hb1⟩
        have HB1 := Lib.hid hb1
        clear hb1
        go_wp2_with fail
        go_roundg (xs.length - (k + 1))
        case measure => omega
        case rel => exact ⟨k + 1, by omega, rfl, by go_num, HB.out.trans (HB1.out.mono HB.out.size), HN2.out⟩
      · have HI := Lib.hid (idxOf_at HE.out hp HN.out)
        clear hp
        rintro e1 w1 ⟨rfl, hb1⟩
        have HB1 := Lib.hid hb1
        clear hb1
        go_wp2_with fail
        go_ret
        exact ⟨ret_int HI.out.symm, HB.out.trans (HB1.out.mono HB.out.size)⟩
    · have HI := Lib.hid (idxOf_none (p := p) (xs := xs) fun j z hj hz => HN.out j z (by omega) hz)
      go_wp2_with fail
      go_ret
      exact ⟨ret_int HI.out.symm, HB.out⟩
end Go.Proofs.YtpmfjndbckblfaaDoor
