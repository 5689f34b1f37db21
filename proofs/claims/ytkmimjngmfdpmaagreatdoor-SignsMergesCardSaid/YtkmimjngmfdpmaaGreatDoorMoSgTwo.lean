/- signs.free, two. -/
import Derived.Test.YtkmimjngmfdpmaaGreatDoorMoShelfI
import Derived.Test.YtkmimjngmfdpmaaGreatDoorMoSgParsePlain
import Derived.Test.YtkmimjngmfdpmaaGreatDoorMoIdxAny
import Derived.Test.YtkmimjngmfdpmaaGreatDoorMoShelfP
namespace Go.Proofs.YtkmimjngmfdpmaaGreatDoor
open Go Go.RowKit

/-- what the walks ask of the package-level variables -/
structure Glob (w : World) : Prop where
  most : ∃ m : Int, w.cell? ⟨1, 0, none⟩ = some (.int .i64 m)
  l0 : w.cell? ⟨0, 0, none⟩ = some (.int .u8 115)
  l1 : w.cell? ⟨0, 1, none⟩ = some (.int .u8 119)
  l2 : w.cell? ⟨0, 2, none⟩ = some (.int .u8 99)
theorem lt_of_cell0 {w : World} {a : Addr} {v : Value} (h : w.cell? a = some v) : a.block < w.heap.size := by
  rcases Nat.lt_or_ge a.block w.heap.size with h1 | h1
  · exact h1
  · simp [World.cell?, Array.getElem?_eq_none h1] at h
theorem Glob.below {w w' : World} (h : Glob w) (hb : Below w.heap.size w w') : Glob w' := by
  obtain ⟨⟨m, h0⟩, h1, h2, h3⟩ := h
  exact ⟨⟨m, (hb.cell (lt_of_cell0 h0)).trans h0⟩, (hb.cell (lt_of_cell0 h1)).trans h1, (hb.cell (lt_of_cell0 h2)).trans h2, (hb.cell (lt_of_cell0 h3)).trans h3⟩
theorem Sg.cut_len (l : List UInt8) (c : UInt8) : (Lib.cut l [c]).1.length ≤ l.length ∧ (Lib.cut l [c]).2.1.length ≤ l.length := by
  unfold Lib.cut
  split
  · exact ⟨by rw [List.length_take]; omega, by rw [List.length_drop]; omega⟩
  · exact ⟨Nat.le_refl _, Nat.zero_le _⟩
theorem Sg.bs_size (l : List UInt8) : (Sg.bs l).size = l.length := rfl
/-- strings.Cut at a byte -/
theorem cut_any (t : ByteArray) (c : UInt8) (w : World) (hg : Glob w) (ht : t.size ≤ 1000000) :
    Calls Tryz.prog 132 #[.string t, .string ⟨#[c]⟩] w (fun e w' => e = .returned (.tuple #[.string (Sg.bs (Lib.cut t.data.toList [c]).1), .string (Sg.bs (Lib.cut t.data.toList [c]).2.1), .bool (Lib.cut t.data.toList [c]).2.2]) ∧ Below w.heap.size w w') := by
  obtain ⟨m, hm⟩ := hg.most
  refine (Tryz.strings_Cut t ⟨#[c]⟩ m w (by omega) hm).mono ?_
  rintro e w' ⟨rfl, n, rfl⟩
  exact ⟨rfl, below_drewN (Below.refl _ _) _⟩
def Sg.freeB (l : List UInt8) : Bool := !decide (l = []) && !Lib.containsAny l [32, 64, 58, 10]
theorem idxAny_all (chars : List UInt8) : ∀ l : List UInt8, decide (0 ≤ Lib.indexAny l chars) = l.any (fun b => chars.contains b)
  | [] => rfl
  | b :: l => by
    have ih := idxAny_all chars l
    have hg := Lib.indexAny_ge chars l
    rw [Lib.indexAny, List.any_cons, ← ih]
    cases h : chars.contains b
    · rw [if_neg (by simp), Bool.false_or]
      by_cases h2 : Lib.indexAny l chars = -1
      · rw [h2]; rfl
      · rw [if_neg (by simpa using h2)]
        have : 0 ≤ Lib.indexAny l chars := by omega
        simp [this]; omega
    · simp
theorem Sg.free_loose {l : List UInt8} (h : (10 : UInt8) ∉ l) : Sg.freeB l = Sg.looseB l := by
  unfold Sg.freeB Sg.looseB Lib.containsAny
  rw [idxAny_all]
  congr 1
  rw [Bool.eq_iff_iff, Bool.not_eq_true', List.any_eq_false, List.all_eq_true]
  constructor
  · intro h1 b hb
    have := h1 b hb
    simp at this
    simp [this]
  · intro h1 b hb
    have h2 := h1 b hb
    have hb10 : b ≠ 10 := fun e => h (e ▸ hb)
    simp at h2
    simp [h2, hb10]
set_option maxRecDepth 100000 in
set_option maxHeartbeats 2000000 in
theorem gFree_any (t : ByteArray) (w : World) (ht : t.size ≤ 1000000) : Calls Tryz.prog 95 #[.string t] w (RetBB (Sg.freeB t.data.toList) w) := by
  by_cases he : t.data.toList = []
  · have HF : Hid (Sg.freeB t.data.toList = false) := Lib.hid (by unfold Sg.freeB; simp [he])
    have hemp : t.toList.isEmpty = true := by rw [Lib.toList_data, he]; rfl
    clear he
    go_enter Tryz.func95, Tryz.ntmps95
    go_wp2_with fail
    go_ret
    exact ⟨ret_bool HF.out.symm, Below.refl _ _⟩
  · have hemp : t.toList.isEmpty = false := empty_not he
    have HC := Lib.hid (contAny_any t ⟨#[32, 64, 58, 10]⟩ w (by unfold AscB; decide) (by decide) (by decide) ht)
    have HF : Hid (Sg.freeB t.data.toList = !Lib.containsAny t.data.toList (⟨#[32, 64, 58, 10]⟩ : ByteArray).data.toList) := Lib.hid (by unfold Sg.freeB; simp [he])
    generalize Lib.containsAny t.data.toList (⟨#[32, 64, 58, 10]⟩ : ByteArray).data.toList = q at HC HF
    clear he
    go_enter Tryz.func95, Tryz.ntmps95
    go_wp2_with fail
    refine HC.out.mono ?_
    rintro e w1 ⟨rfl, hb⟩
    have HB := Lib.hid hb
    clear hb
    go_wp2_with fail
    go_ret
    exact ⟨ret_bool HF.out.symm, HB.out⟩
def RetTwo (q : Int × Int × Bool) (w : World) (e : Ending) (w' : World) : Prop := e = .returned (.tuple #[.int .i64 q.1, .int .i64 q.2.1, .bool q.2.2]) ∧ Below w.heap.size w w'
theorem RetTwo.of {q : Int × Int × Bool} {a b : Int} {c : Bool} {w w' : World} (hq : q = (a, b, c)) (hb : Below w.heap.size w w') : RetTwo q w (.returned (.tuple #[.int .i64 a, .int .i64 b, .bool c])) w' := by subst hq; exact ⟨rfl, hb⟩
set_option maxRecDepth 100000 in
set_option maxHeartbeats 2000000 in
theorem gTwo_any (t : ByteArray) (c : UInt8) (w : World) (hg : Glob w) (ht : t.size ≤ 1000000) : Calls Tryz.prog 96 #[.string t, .string ⟨#[c]⟩] w (RetTwo (Sg.twoP t.data.toList c) w) := by
  have HC := Lib.hid (cut_any t c w hg ht)
  obtain ⟨hl1, hl2⟩ := Sg.cut_len t.data.toList c
  have htl : t.data.toList.length = t.size := rfl
  have HT : Hid (Sg.twoP t.data.toList c = (Lx.numV (Lib.cut t.data.toList [c]).1 3, Lx.numV (Lib.cut t.data.toList [c]).2.1 3, (Lib.cut t.data.toList [c]).2.2 && Lx.numB (Lib.cut t.data.toList [c]).1 3 && Lx.numB (Lib.cut t.data.toList [c]).2.1 3)) := Lib.hid rfl
  obtain ⟨⟨a, b, f⟩, hq⟩ : ∃ q, q = Lib.cut t.data.toList [c] := ⟨_, rfl⟩
  rw [← hq] at HC HT hl1 hl2
  have N1 := Lib.hid fun W => gNumber_any (Sg.bs a) W (by rw [Sg.bs_size]; simp only at hl1; omega)
  have N2 := Lib.hid fun W => gNumber_any (Sg.bs b) W (by rw [Sg.bs_size]; simp only at hl2; omega)
  simp only [Sg.bs_list] at N1 N2
  simp only at HT
  obtain ⟨ka, hka⟩ : ∃ k, k = Lx.numV a 3 := ⟨_, rfl⟩
  obtain ⟨kb, hkb⟩ : ∃ k, k = Lx.numV b 3 := ⟨_, rfl⟩
  obtain ⟨oa, hoa⟩ : ∃ k, k = Lx.numB a 3 := ⟨_, rfl⟩
  obtain ⟨ob, hob⟩ : ∃ k, k = Lx.numB b 3 := ⟨_, rfl⟩
  rw [← hka, ← hoa] at N1
  rw [← hkb, ← hob] at N2
  rw [← hka, ← hoa, ← hkb, ← hob] at HT
  generalize Sg.twoP t.data.toList c = tw at HT ⊢
  generalize Sg.bs a = sa at HC N1
  generalize Sg.bs b = sb at HC N2
  clear hq hl1 hl2 htl hka hkb hoa hob
  go_enter Tryz.func96, Tryz.ntmps96
  go_wp2_with fail
  refine HC.out.mono ?_
  rintro e w1 ⟨rfl, hb⟩
  have HB := Lib.hid hb
  clear hb
  go_wp2_with fail
  refine (N1.out _).mono ?_
  rintro e w2 ⟨rfl, hb⟩
  have HB2 := Lib.hid (HB.out.trans (hb.mono HB.out.size))
  clear hb
  go_wp2_with fail
  refine (N2.out _).mono ?_
  rintro e w3 ⟨rfl, hb⟩
  have HB3 := Lib.hid (HB2.out.trans (hb.mono HB2.out.size))
  clear hb
  cases f <;> cases oa <;> cases ob <;> (
  go_wp2_with fail
  go_ret3
  exact RetTwo.of HT.out HB3.out)
end Go.Proofs.YtkmimjngmfdpmaaGreatDoor
