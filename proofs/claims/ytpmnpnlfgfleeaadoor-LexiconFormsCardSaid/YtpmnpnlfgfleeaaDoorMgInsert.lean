/- slices.BinarySearchFunc at no element; slices.Insert at the end. -/
import Derived.Test.YtpmnpnlfgfleeaaDoorMgAdd
namespace Go.Proofs.YtpmnpnlfgfleeaaDoor
open Go.RowKit

set_option maxRecDepth 100000 in
theorem bsearch_nil (A : Option Addr) (c : Nat) (p : Option Addr) (fv : Value) (w : World) (hf : ∃ g u, fv = .func g #[] #[u]) : Calls Tryd.prog 43 #[.slice A 0 c, .pointer p, fv] w (fun e w' => ∃ b, e = .returned (.tuple #[.int .i64 ((0 : Nat) : Int), .bool b]) ∧ Below w.heap.size w w') := by
  obtain ⟨g, u, rfl⟩ := hf
  go_enter Tryd.func43, Tryd.ntmps43
  go_wp2_with fail
  go_loopg [9, 10] 0 (fun k a b wr => a = .int .i64 0 ∧ b = .int .i64 0 ∧ wr = w)
  case atStart => exact ⟨rfl, rfl, rfl⟩
  case round =>
    obtain ⟨rfl, rfl, rfl⟩ := hrel
    go_wp2_with fail
    go_ret2
    exact ⟨_, rfl, Below.refl _ _⟩

set_option maxRecDepth 100000 in
set_option maxHeartbeats 1000000 in
theorem insert_end (w : World) (base n : Nat) (p : Option Addr) (v : Value) (xs : List Value) (hown : w.ownsRow base 80 1 v n xs) (hn : n ≤ 1000) (hbase : base ≤ w.heap.size) : InsSays w base n n p v xs (xs ++ [.pointer p]) := by
  intro W gu hW hgu _
  have hgul : gu < W.heap.size := (Array.getElem?_eq_some_iff.1 hgu).1
  obtain ⟨u, hue⟩ : ∃ u, u = Value.slice (some ⟨gu, 0, none⟩) 1 1 := ⟨_, rfl⟩
  have hu : RdS W W.heap.size 1 encP u [p] := by rw [hue]; exact rds_block (xs := [p]) len_ptr hgu rfl hgul (Nat.le_refl 1) (by decide)
  rw [← hue]
  clear hue hgu hgul
  have HOWN : Hid (W.ownsRow base 80 1 v n xs) := Lib.hid (hown.kept (grown_of_below (row := none) hW) (by
    rcases hown.2 with ⟨e, _⟩ | ⟨g, cap, cur, e, _⟩
    · rw [e]; exact .inl rfl
    · rw [e]; exact .inr (by simp [Value.ownBlock])))
  obtain ⟨A, c, rfl⟩ := own_form hown
  have hsz := hW.size
  have hbW : base ≤ W.heap.size := by omega
  have hcap : n ≤ c ∧ c ≤ 9223372036854775807 := by
    rcases hown.2 with ⟨e1, h0⟩ | ⟨g, cap, cur, e1, _, hh, hle, hm, _⟩
    · injection e1 with _ _ e3; omega
    · injection e1 with _ _ e3; subst e3; exact ⟨hle, by simpa [maxLen] using hm⟩
  obtain ⟨hc1, hc2⟩ := hcap
  have HU := Lib.hid hu
  obtain ⟨Au, cu, rfl, hcu1, hcu2, -⟩ := hu
  obtain ⟨i0, hi0, hz0, hs0, hb0⟩ := info_parts info_ptail
  clear hown hW
  by_cases hcn : c = n
  · subst hcn
    go_enter Tryd.func46, Tryd.ntmps46
    go_wp2_with (at_builtin; (refine wpList_append_rd (enc := encP) rfl (.tmp 23) (.tmp 24) _ rfl base 80 i0 _ 1 8 len_ptr one_ptr Tryd.underlying72 hi0 hz0 hs0 hb0 rfl Nat.one_pos (.slice A c c) c xs rfl HOWN.out W.heap.size _ [p] rfl HU.out ?h63 ?hb hbW ?_))
    case h63 => simp only [maxLen]; show c + 1 ≤ _; omega
    case hb => show (c + 1) * 8 ≤ _; omega
    intro v' w' hown' hg hat
    have hown1 : w'.ownsRow base 80 1 v' (c + 1) (xs ++ [.pointer p]) := by simpa [encP] using hown'
    obtain ⟨A', c', rfl⟩ := own_form hown1
    have H1 := Lib.hid hown1
    have H2 := Lib.hid hg
    clear hown' hown1 hg hat
    go_wp2_with fail
    go_ret
    exact ⟨_, _, rfl, H1.out, H2.out⟩
  · go_enter Tryd.func46, Tryd.ntmps46
    go_wp2_with (at_builtin; (refine wpList_append_rd (enc := encP) rfl (.tmp 23) (.tmp 24) _ rfl base 80 i0 _ 1 8 len_ptr one_ptr Tryd.underlying72 hi0 hz0 hs0 hb0 rfl Nat.one_pos (.slice A n c) n xs rfl HOWN.out W.heap.size _ [p] rfl HU.out ?h63 ?hb hbW ?_))
    case h63 => simp only [maxLen]; show n + 1 ≤ _; omega
    case hb => show (n + 1) * 8 ≤ _; omega
    intro v' w' hown' hg hat
    have hown1 : w'.ownsRow base 80 1 v' (n + 1) (xs ++ [.pointer p]) := by simpa [encP] using hown'
    obtain ⟨A', c', rfl⟩ := own_form hown1
    have H1 := Lib.hid hown1
    have H2 := Lib.hid hg
    clear hown' hown1 hg hat
    go_wp2_with fail
    go_ret
    exact ⟨_, _, rfl, H1.out, H2.out⟩
end Go.Proofs.YtpmnpnlfgfleeaaDoor
