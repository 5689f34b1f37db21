/- The program's reader: a sign. -/
import Derived.Test.YtenmkbpdkfhbjaaGreatRcCdCode
import Derived.Test.YtenmkbpdkfhbjaaGreatRcFmtPlain
import Derived.Deep.CutBlock
import Derived.Deep.DeepCutAuto
import Derived.Laws.Tables
import Derived.Test.YtenmkbpdkfhbjaaGreatRcShelf
namespace Go.Proofs.YtenmkbpdkfhbjaaGreat
open Go Go.RowKit

theorem two_alloc (w : World) (A B : Obj) : ((w.alloc A).alloc B).heap[w.heap.size]? = some A ∧ ((w.alloc A).alloc B).heap[w.heap.size + 1]? = some B ∧ Below w.heap.size w ((w.alloc A).alloc B) ∧ ((w.alloc A).alloc B).heap.size = w.heap.size + 2 :=
  ⟨start_fst w A B, by have := heap_alloc_new (w.alloc A) B; simpa using this, ((Below.refl _ _).alloc (Nat.le_refl _) _).alloc (by simp) _, by simp⟩
theorem in_box {w : World} {X : Nat} {cs : Array Value} {t : TypeId} (h : w.heap[X]? = some (.cells cs t (0, 0))) (j : Nat) : w.cell? ⟨X, j, none⟩ = cs[j]? ∧ w.frozen? ⟨X, j, none⟩ = false := ⟨by simp [World.cell?, h], by simp [World.frozen?, h]⟩
theorem word_cases {m : Int} (h : Cd.wordI m) : (decide (65 ≤ m) = true ∧ decide (m ≤ 90) = true) ∨ (decide (65 ≤ m) = true ∧ decide (m ≤ 90) = false ∧ decide (97 ≤ m) = true ∧ decide (m ≤ 122) = true) ∨ (decide (65 ≤ m) = false ∧ decide (97 ≤ m) = false ∧ decide (48 ≤ m) = true ∧ decide (m ≤ 57) = true) := by
  unfold Cd.wordI at h
  simp only [decide_eq_true_eq, decide_eq_false_iff_not]
  omega
theorem word_not {m : Int} (h : ¬ Cd.wordI m) : (decide (65 ≤ m) = false ∧ decide (97 ≤ m) = false ∧ decide (48 ≤ m) = false) ∨ (decide (65 ≤ m) = false ∧ decide (97 ≤ m) = false ∧ decide (48 ≤ m) = true ∧ decide (m ≤ 57) = false) ∨
    (decide (65 ≤ m) = true ∧ decide (m ≤ 90) = false ∧ decide (97 ≤ m) = false ∧ decide (48 ≤ m) = true ∧ decide (m ≤ 57) = false) ∨ (decide (65 ≤ m) = true ∧ decide (m ≤ 90) = false ∧ decide (97 ≤ m) = true ∧ decide (m ≤ 122) = false ∧ decide (48 ≤ m) = true ∧ decide (m ≤ 57) = false) := by
  unfold Cd.wordI at h
  simp only [decide_eq_true_eq, decide_eq_false_iff_not]
  omega

theorem grown_drew' {w w' : World} {row : Option Nat} (h : w.grownBy w' row) (n : Nat) : w.grownBy (w'.drewN n) row := grown_below h (drew_below n)
structure St (w : World) (R : Nat) (cv : Value) (s : ByteArray) (j X : Nat) (cs : Array Value) (W : World) : Prop where
  g : w.grownBy W (some R)
  r : RdrIs R cv s j W
  z : W.heap[w.heap.size]? = some (.cells #[.int .i64 0, .int .i64 0, .int .i64 0, .int .i64 0, .bool false, .int .i64 0, .int .i64 0, .int .i64 0, .string ⟨#[]⟩, .int .i64 0, .slice none 0 0] 114 (0, 0))
  x : W.heap[X]? = some (.cells cs 114 (0, 0))
  hR : R < w.heap.size
  hX : w.heap.size < X
theorem lt_of_some {w : World} {X : Nat} {o : Obj} (h : w.heap[X]? = some o) : X < w.heap.size := (Array.getElem?_eq_some_iff.1 h).1
theorem St.call {w W W' : World} {R : Nat} {cv : Value} {s : ByteArray} {j j' X : Nat} {cs : Array Value} (h : St w R cv s j X cs W) (hg : W.grownBy W' (some R)) (hr : RdrIs R cv s j' W') : St w R cv s j' X cs W' :=
  ⟨grown_trans h.g hg, hr, (hg.block _ (lt_of_some h.z) (fun e => by have := h.hR; cases e; omega)).trans h.z, (hg.block _ (lt_of_some h.x) (fun e => by have := h.hR; have := h.hX; cases e; omega)).trans h.x, h.hR, h.hX⟩
theorem St.below {w W W' : World} {R : Nat} {cv : Value} {s : ByteArray} {j X : Nat} {cs : Array Value} (h : St w R cv s j X cs W) (hb : Below W.heap.size W W') : St w R cv s j X cs W' :=
  h.call (grown_of_below hb) (h.r.keep (hb.block R h.r.at.2.2.2.2))
theorem St.set {w W : World} {R : Nat} {cv : Value} {s : ByteArray} {j X : Nat} {cs : Array Value} (h : St w R cv s j X cs W) (i : Nat) (v : Value) : St w R cv s j X (cs.setIfInBounds i v) (W.setCell ⟨X, i, none⟩ v) := by
  have hR := h.hR
  have hX := h.hX
  exact ⟨grown_after h.g (grown_set _ _ _ _) (.inr ⟨X, rfl, by omega⟩), h.r.keep (Below.heap_setCell _ ⟨X, i, none⟩ _ _ (by show R ≠ X; omega)), (Below.heap_setCell _ ⟨X, i, none⟩ _ _ (by show w.heap.size ≠ X; omega)).trans h.z, Go.Joins.block_setCell h.x _, hR, hX⟩
theorem St.draw {w W : World} {R : Nat} {cv : Value} {s : ByteArray} {j X : Nat} {cs : Array Value} (h : St w R cv s j X cs W) : St w R cv s j X cs W.drew := h.below (Below.refl _ _).drew
theorem ret_box {w W : World} {R : Nat} {cv : Value} {s : ByteArray} {j : Nat} {old : Array Value} (hz : W.heap[w.heap.size]? = some (.cells old 114 (0, 0))) (hg : w.grownBy W (some R)) (hr : RdrIs R cv s j W) (hR : R < w.heap.size) (cs : Array Value) :
    w.grownBy (W.setRow w.heap.size cs) (some R) ∧ RdrIs R cv s j (W.setRow w.heap.size cs) ∧ (W.setRow w.heap.size cs).heap[w.heap.size]? = some (.cells cs 114 (0, 0)) ∧ ∀ b, b ≠ w.heap.size → (W.setRow w.heap.size cs).heap[b]? = W.heap[b]? :=
  ⟨⟨hg.os, hg.tape, hg.output, by rw [setRow_size]; exact hg.size, fun i hi hne => (setRow_other _ _ _ _ (by omega)).trans (hg.block i hi hne)⟩, hr.keep (setRow_other _ _ _ _ (by omega)), setRow_heap _ _ _ _ _ _ hz, fun b hb => setRow_other _ _ _ _ hb⟩
theorem St.next {w W : World} {R : Nat} {cv : Value} {s : ByteArray} {j X : Nat} {cs : Array Value} (h : St w R cv s j X cs W) (hj : j < s.size) : St w R cv s (j + 1) X cs (W.setCell ⟨R, 2, none⟩ (.int .i64 ((j : Int) + 1))) :=
  h.call (grown_set _ _ _ _) (h.r.next rfl hj)
theorem idx_state (s : ByteArray) (k : Nat) : ∃ i : Int, Lib.indexByte [35, 61, 33] (nextB s k).toNat.toUInt8 = i ∧ Cd.stateOf s.data.toList[k]? = i + 1 ∧ -1 ≤ i ∧ i ≤ 2 ∧ (0 ≤ i → k < s.size) := by
  have key : ∀ c : UInt8, ∃ i : Int, Lib.indexByte [35, 61, 33] c = i ∧ Cd.stateOf (some c) = i + 1 ∧ -1 ≤ i ∧ i ≤ 2 := fun c => by
    unfold Lib.indexByte Lib.indexByte Lib.indexByte Lib.indexByte Cd.stateOf
    by_cases h1 : c = 35
    · subst h1; exact ⟨0, rfl, rfl, by decide, by decide⟩
    · by_cases h2 : c = 61
      · subst h2; exact ⟨1, rfl, rfl, by decide, by decide⟩
      · by_cases h3 : c = 33
        · subst h3; exact ⟨2, rfl, rfl, by decide, by decide⟩
        · have e1 : ((35 : UInt8) == c) = false := by simpa using fun e => h1 e.symm
          have e2 : ((61 : UInt8) == c) = false := by simpa using fun e => h2 e.symm
          have e3 : ((33 : UInt8) == c) = false := by simpa using fun e => h3 e.symm
          exact ⟨-1, by rw [e1, e2, e3]; rfl, by simp [h1, h2, h3], by decide, by decide⟩
  unfold nextB
  cases hk : s.data.toList[k]? with
  | none => exact ⟨-1, by decide, rfl, by decide, by decide, fun h => absurd h (by decide)⟩
  | some c =>
    obtain ⟨i, h1, h2, h3, h4⟩ := key c
    refine ⟨i, ?_, h2, h3, h4, fun _ => by simpa using (List.getElem?_eq_some_iff.1 hk).1⟩
    have e : ((c.toNat : Int)).toNat.toUInt8 = c := by simp
    simp only [e]
    exact h1
set_option maxRecDepth 100000 in
set_option maxHeartbeats 8000000 in
theorem glyph_any (R : Nat) (line : Bool) (s : ByteArray) (k : Nat) (w : World) (h : RdrIs R (if line then .iface 96 (.agg #[]) else .iface 97 (.agg #[])) s k w) (hs : s.size ≤ 1000000) :
    Calls Tryz.prog 161 #[.pointer (some ⟨R, 0, none⟩)] w (RetP R (if line then .iface 96 (.agg #[]) else .iface 97 (.agg #[])) s (VI S0) (Cd.glyphG s.data.toList line k) w) := by
  generalize hcv : (if line then Value.iface 96 (.agg #[]) else .iface 97 (.agg #[])) = cv at h ⊢
  have HCV := Lib.hid hcv
  clear hcv
  have hRl := h.at.2.2.2.2
  have hk := h.le
  obtain ⟨W1, hW1⟩ : ∃ W1, W1 = (w.alloc (.cells #[.int .i64 0, .int .i64 0, .int .i64 0, .int .i64 0, .bool false, .int .i64 0, .int .i64 0, .int .i64 0, .string ⟨#[]⟩, .int .i64 0, .slice none 0 0] 114)).alloc (.cells #[.int .i64 1, .int .i64 0, .int .i64 0, .int .i64 0, .bool false, .int .i64 0, .int .i64 0, .int .i64 0, .string ⟨#[]⟩, .int .i64 k, .slice none 0 0] 114) := ⟨_, rfl⟩
  obtain ⟨hZ, hX, hb1, hz1⟩ := two_alloc w (.cells #[.int .i64 0, .int .i64 0, .int .i64 0, .int .i64 0, .bool false, .int .i64 0, .int .i64 0, .int .i64 0, .string ⟨#[]⟩, .int .i64 0, .slice none 0 0] 114) (.cells #[.int .i64 1, .int .i64 0, .int .i64 0, .int .i64 0, .bool false, .int .i64 0, .int .i64 0, .int .i64 0, .string ⟨#[]⟩, .int .i64 k, .slice none 0 0] 114)
  rw [← hW1] at hZ hX hb1 hz1
  have h1 : RdrIs R cv s k W1 := h.keep (hb1.block R hRl)
  have hlt1 := h1.at.2.2.2.2
  obtain ⟨c0, c1, c2, f2, -⟩ := h.at
  have HN := Lib.hid (next_any R cv s k W1 h1)
  unfold RetN at HN
  have HR1 := Lib.hid h1
  have HW1 := Lib.hid hW1
  have HZ1 := Lib.hid hZ
  have HX1 := Lib.hid hX
  have HB1 := Lib.hid hb1
  have hz1' : w.heap.size + 1 < W1.heap.size := by omega
  have HSZ := Lib.hid hz1
  have HQ := Lib.hid (Cd.glyph_eq (s := s.data.toList) line k)
  clear h h1 hW1 hZ hX hb1 hz1
  by_cases hup : 65 ≤ nextB s k ∧ nextB s k ≤ 90
  · have hks := nextB_lt (s := s) (k := k) (by omega)
    have HUP : Hid (Cd.glyphG s.data.toList line k = Cd.glyphE s.data.toList line k ((s.data.toList.drop k).take (Cd.codeEnd s.data.toList k - k)) (Cd.codeEnd s.data.toList k)) := Lib.hid (by
      rw [HQ.out, HR1.out.byte hks]
      have hb := nextB_eq (HR1.out.byte hks)
      have e : (65 : UInt8).toNat = 65 ∧ (90 : UInt8).toNat = 90 := by decide
      simp only
      rw [if_pos (by unfold Cd.upperB; simp only [decide_eq_true_eq, UInt8.le_iff_toNat_le]; rw [e.1, e.2]; omega)])
    have g1 : decide (nextB s k < 65) = false := by simp; omega
    have g2 : decide (90 < nextB s k) = false := by simp; omega
    go_enter Tryz.func161, Tryz.ntmps161
    go_upto_region 2 with fail
    rw [← HW1.out]
    clear c0 c1 c2 f2
    generalize nextB s k = m at HN g1 g2
    go_wp2_with fail
    refine HN.out.mono ?_
    rintro e w1 ⟨rfl, hb⟩
    have hr1 := HR1.out.keep (hb.block R hlt1)
    obtain ⟨c0, c1, c2, f2, hlt2⟩ := hr1.at
    have HB := Lib.hid hb
    have HRr := Lib.hid hr1
    clear hb hr1
    go_upto_block 0 with fail
    obtain ⟨w2, hw2⟩ : ∃ w2, w2 = w1.setCell ⟨R, 2, none⟩ (.int .i64 ((k : Int) + 1)) := ⟨_, rfl⟩
    rw [← hw2]
    have HR2 : Hid (RdrIs R cv s (k + 1) w2) := Lib.hid (by rw [hw2]; exact HRr.out.next rfl hks)
    have HG2 : Hid (W1.grownBy w2 (some R)) := Lib.hid (by rw [hw2]; exact grown_after (grown_of_below HB.out) (grown_set _ _ _ _) (.inl rfl))
    clear hw2 c0 c1 c2 f2
    obtain ⟨E, hE⟩ : ∃ E, E = Cd.codeEnd s.data.toList k := ⟨_, rfl⟩
    have hkl : k < s.data.toList.length := by simpa using hks
    have hE0 : k < E := by rw [hE]; exact Cd.code_gt' k
    have hE8 : E ≤ k + 8 := by rw [hE]; exact Cd.code_len k
    have hEs : E ≤ s.size := by rw [hE]; simpa using Cd.code_le hkl
    have HIN : Hid (∀ j, k < j → j < E → j - k < 8 ∧ ∃ b, s.data.toList[j]? = some b ∧ Cd.wordB b = true) := Lib.hid (by rw [hE]; exact fun j a b => Cd.code_in a b)
    have HOUT : Hid (E = k + 8 ∨ ∀ b, s.data.toList[E]? = some b → Cd.wordB b = false) := Lib.hid (by rw [hE]; exact Cd.code_out k)
    have HE := Lib.hid hE
    clear hE hkl
    go_cut [5] (fun _ wc => W1.grownBy wc (some R) ∧ RdrIs R cv s E wc)
    case first =>
      go_wp2_with fail
      go_loopg [5] (E - (k + 1)) (fun g _ wr => ∃ j, k < j ∧ j ≤ E ∧ g = E - j ∧ W1.grownBy wr (some R) ∧ RdrIs R cv s j wr)
      case atStart => exact ⟨k + 1, by omega, by omega, rfl, HG2.out, HR2.out⟩
      case round =>
        obtain ⟨j, hj1, hj2, rfl, hg, hr⟩ := hrel
        have HGr := Lib.hid hg
        have HRw := Lib.hid hr
        have hX := (hg.block (w.heap.size + 1) hz1' (fun e => by cases e; omega)).trans HX1.out
        obtain ⟨c0, c1, c2, f2, hltr⟩ := hr.at
        have x9 := (in_box hX 9).1
        simp at x9
        clear hg hr hX
        by_cases hc : j - k < 8
        · have q1 : decide ((j : Int) - (k : Int) < 8) = true := by simp; omega
          have q2 : -9223372036854775808 ≤ (j : Int) - (k : Int) ∧ (j : Int) - (k : Int) ≤ 9223372036854775807 := by omega
          have HN3 := Lib.hid (fun (n : Nat) => next_any R cv s j (wr.drewN n) (HRw.out.keep rfl))
          have HM := Lib.hid (show ∃ m, m = nextB s j ∧ (Cd.wordI m ↔ j < E) from ⟨_, rfl, by
            constructor
            · intro hw
              refine Nat.lt_of_not_le fun hle => ?_
              have hjE : j = E := by omega
              subst hjE
              have hlt := nextB_lt (s := s) (k := j) (by unfold Cd.wordI at hw; omega)
              rcases HOUT.out with h8 | h8
              · omega
              · have hb := HRw.out.byte hlt
                have := h8 _ hb
                rw [nextB_eq hb, ← Cd.word_iff] at hw
                rw [hw] at this
                cases this
            · intro hjE
              obtain ⟨-, b, hb, hw⟩ := HIN.out j hj1 hjE
              rw [nextB_eq hb, ← Cd.word_iff]
              exact hw⟩)
          obtain ⟨m3, hm3, hw3⟩ := HM.out
          unfold RetN at HN3
          rw [← hm3] at HN3
          by_cases hjE : j < E
          · have hcs := word_cases (hw3.2 hjE)
            have HM3 := Lib.hid hm3
            have hjs : j < s.size := by omega
            clear hw3 hm3
            rcases hcs with ⟨d1, d2⟩ | ⟨d1, d2, d3, d4⟩ | ⟨d1, d3, d5, d6⟩ <;>
            ( go_wp2_with fail
              go_quiet (fail)
              go_wp2_with fail
              refine (HN3.out _).mono ?_
              rintro e w3 ⟨rfl, hb3⟩
              have hr3 := HRw.out.keep (hb3.block R hltr)
              obtain ⟨e0, e1, e2, y2, -⟩ := hr3.at
              have HR3 := Lib.hid hr3
              have HB3 := Lib.hid hb3
              clear hb3 hr3 c0 c1 c2 f2 x9
              go_wp2_with fail
              go_roundg (E - (j + 1))
              case measure => omega
              case rel => exact ⟨j + 1, by omega, by omega, rfl, grown_after (grown_below (grown_drew' HGr.out _) HB3.out) (grown_set _ _ _ _) (.inl rfl), HR3.out.next rfl hjs⟩ )
          · have hcs := word_not (fun h => hjE (hw3.1 h))
            have HM3 := Lib.hid hm3
            have hje : j = E := by omega
            have HJE := Lib.hid hje
            clear hw3 hm3 hje
            rcases hcs with ⟨d1, d3, d5⟩ | ⟨d1, d3, d5, d6⟩ | ⟨d1, d2, d3, d5, d6⟩ | ⟨d1, d2, d3, d4, d5, d6⟩
            all_goals
              go_wp2_with fail
              go_quiet (fail)
              go_wp2_with fail
              refine (HN3.out _).mono ?_
              rintro e w3 ⟨rfl, hb3⟩
              have HR3 := Lib.hid (HRw.out.keep (hb3.block R hltr))
              have HB3 := Lib.hid hb3
              clear hb3 c0 c1 c2 f2 x9
              go_wp2_with fail
              go_meet
              case rel => exact ⟨grown_below (grown_drew' HGr.out _) HB3.out, HJE.out ▸ HR3.out⟩
        · have q1 : decide ((j : Int) - (k : Int) < 8) = false := by simp; omega
          have hjE : j = E := by omega
          go_wp2_with fail
          go_quiet (fail)
          go_wp2_with fail
          go_meet
          case rel => subst hjE; exact ⟨grown_drew' HGr.out _, HRw.out.keep rfl⟩
    case rest =>
      obtain ⟨hg, hr⟩ := hcut
      have hX := (hg.block (w.heap.size + 1) hz1' (fun e => by cases e; omega)).trans HX1.out
      obtain ⟨c0, c1, c2, f2, hltr⟩ := hr.at
      have x9 := (in_box hX 9).1
      have x8 := (in_box hX 8).1
      have y8 := (in_box hX 8).2
      simp at x9 x8
      have HGr := Lib.hid hg
      have HRw := Lib.hid hr
      have HX2 := Lib.hid hX
      have q1 : (0 : Int) ≤ (k : Int) := by omega
      have q2 : (k : Int) ≤ (E : Int) := by omega
      have q3 : (E : Int) ≤ (s.size : Int) := by omega
      have q4 : decide (k ≤ E) = true := by simp; omega
      clear hg hr hX
      go_wp2_with fail
      go_region
      obtain ⟨w3, hw3⟩ : ∃ w3, w3 = (wc.setCell ⟨w.heap.size + 1, 8, none⟩ (.string (s.extract k E))).drew := ⟨_, rfl⟩
      rw [← hw3]
      have HS3 : Hid (St w R cv s E (w.heap.size + 1) #[.int .i64 1, .int .i64 0, .int .i64 0, .int .i64 0, .bool false, .int .i64 0, .int .i64 0, .int .i64 0, .string (s.extract k E), .int .i64 k, .slice none 0 0] w3) := Lib.hid (by
        rw [hw3]
        exact (St.set (cs := #[.int .i64 1, .int .i64 0, .int .i64 0, .int .i64 0, .bool false, .int .i64 0, .int .i64 0, .int .i64 0, .string ⟨#[]⟩, .int .i64 k, .slice none 0 0]) ⟨grown_after (grown_of_below HB1.out) HGr.out (.inl rfl), HRw.out, (HGr.out.block (w.heap.size) (by omega) (fun e => by cases e; omega)).trans HZ1.out, HX2.out, hRl, by omega⟩ 8 (.string (s.extract k E))).draw)
      have HI3 := Lib.hid (is_any R cv s E 92 w3 HS3.out.r hs)
      clear hw3 c0 c1 c2 f2 x9 x8 y8 q1 q2 q3 q4
      go_wp2_with fail
      refine HI3.out.mono ?_
      rintro e w4 ⟨rfl, hg4, hr4, -⟩
      obtain ⟨mi, hmi⟩ : ∃ mi, mi = Cd.sees s.data.toList E 92 := ⟨_, rfl⟩
      rw [← hmi]
      obtain ⟨E1, hE1⟩ : ∃ E1, E1 = (if Cd.sees s.data.toList E 92 = true then E + 1 else E) := ⟨_, rfl⟩
      rw [← hE1] at hr4
      have HMI : Hid ((if Cd.sees s.data.toList E 92 = true then (Cd.R.ok true (E + 1) : Cd.R Bool) else .ok false E) = .ok mi E1) := Lib.hid (by
        rw [hmi, hE1]
        cases Cd.sees s.data.toList E 92 <;> rfl)
      have HS4 := Lib.hid (HS3.out.call hg4 hr4)
      have x4 := (in_box HS4.out.x 4).1
      have y4 := (in_box HS4.out.x 4).2
      simp at x4
      clear hmi hE1 hg4 hr4
      go_upto_region 12 with fail
      obtain ⟨w5, hw5⟩ : ∃ w5, w5 = w4.setCell ⟨w.heap.size + 1, 4, none⟩ (.bool mi) := ⟨_, rfl⟩
      rw [← hw5]
      have HS5 : Hid (St w R cv s E1 (w.heap.size + 1) #[.int .i64 1, .int .i64 0, .int .i64 0, .int .i64 0, .bool mi, .int .i64 0, .int .i64 0, .int .i64 0, .string (s.extract k E), .int .i64 k, .slice none 0 0] w5) := Lib.hid (by
        rw [hw5]
        exact HS4.out.set 4 (.bool mi))
      have HI5 := Lib.hid (is_any R cv s E1 47 w5 HS5.out.r hs)
      clear hw5 x4 y4
      have HT : Hid (Cd.turnG s.data.toList E1 = if Cd.sees s.data.toList E1 47 = true then Cd.digitG s.data.toList 49 51 (E1 + 1) else .ok 0 E1) := Lib.hid rfl
      have HQ2 : Hid (Cd.glyphG s.data.toList line k = (Cd.turnG s.data.toList E1).bind fun tn e2 => .ok (.mk (Cd.glyphN tn mi (if line = true then Cd.stateOf s.data.toList[e2]? else 0)) ((s.data.toList.drop k).take (E - k)) k []) (if (if line = true then Cd.stateOf s.data.toList[e2]? else 0) = 0 then e2 else e2 + 1)) := Lib.hid (by
        rw [HUP.out, ← HE.out]
        unfold Cd.glyphE
        rw [HMI.out]
        rfl)
      have HE2 : Hid (Cd.bs ((s.data.toList.drop k).take (E - k)) = s.extract k E) := Lib.hid (by rw [← Lib.extract_data]; rfl)
      go_wp2_with fail
      refine HI5.out.mono ?_
      rintro e w6 ⟨rfl, hg6, hr6, -⟩
      have HG6 := Lib.hid hg6
      have HR6 := Lib.hid hr6
      clear hg6 hr6
      go_upto_if 87 with fail
      go_cut [88] (fun _ wc => ∃ tn e2, Cd.turnG s.data.toList E1 = .ok tn e2 ∧ St w R cv s e2 (w.heap.size + 1) #[.int .i64 1, .int .i64 0, .int .i64 0, .int .i64 tn, .bool mi, .int .i64 0, .int .i64 0, .int .i64 0, .string (s.extract k E), .int .i64 k, .slice none 0 0] wc)
      case first =>
        have hr6 := HR6.out
        have hg6 := HG6.out
        cases hsee : Cd.sees s.data.toList E1 47
        · rw [hsee] at hr6 HT
          rw [if_neg Bool.false_ne_true] at hr6
          have HT2 := Lib.hid (HT.out.trans (if_neg Bool.false_ne_true))
          have HS6 := Lib.hid (HS5.out.call hg6 hr6)
          clear hsee hg6 hr6 HR6
          go_wp2_with fail
          go_meet
          case rel => exact ⟨0, E1, HT2.out, HS6.out⟩
        · rw [hsee] at hr6 HT
          rw [if_pos rfl] at hr6
          have HT2 := Lib.hid (HT.out.trans (if_pos rfl))
          have HS6 := Lib.hid (HS5.out.call hg6 hr6)
          have HD := Lib.hid (digit_any R cv s (E1 + 1) 49 51 w6 hr6 hs (by decide))
          unfold RetP at HD
          clear hsee hg6 hr6
          cases hdg : Cd.digitG s.data.toList 49 51 (E1 + 1) with
          | bad jb =>
            rw [hdg] at HD HT2
            have HB2 : Hid (Cd.glyphG s.data.toList line k = .bad jb) := Lib.hid (by rw [HQ2.out, HT2.out]; rfl)
            clear hdg
            go_wp2_with fail
            refine HD.out.mono ?_
            rintro e w7 ⟨hg7, rfl⟩
            rw [HB2.out]
            exact ⟨rfl, grown_trans HS6.out.g hg7, rfl⟩
          | ok tn e2 =>
            rw [hdg] at HD HT2
            clear hdg
            go_wp2_with fail
            refine HD.out.mono ?_
            rintro e w7 ⟨hg7, hr7, _, rfl, rfl⟩
            have HS7 := Lib.hid (HS6.out.call hg7 hr7)
            have x3 := (in_box HS7.out.x 3).1
            have y3 := (in_box HS7.out.x 3).2
            simp at x3
            clear hg7 hr7
            go_wp2_with fail
            go_meet
            case rel => exact ⟨tn, e2, HT2.out, HS7.out.set 3 (.int .i64 tn)⟩
      case rest =>
        obtain ⟨tn, e2, hT, hS⟩ := hcut
        have HT3 := Lib.hid hT
        have HS := Lib.hid hS
        obtain ⟨c0, c1, c2, f2, hltr⟩ := hS.r.at
        have HQ3 : Hid (Cd.glyphG s.data.toList line k = .ok (.mk (Cd.glyphN tn mi (if line = true then Cd.stateOf s.data.toList[e2]? else 0)) ((s.data.toList.drop k).take (E - k)) k []) (if (if line = true then Cd.stateOf s.data.toList[e2]? else 0) = 0 then e2 else e2 + 1)) := Lib.hid (by rw [HQ2.out, hT]; rfl)
        clear hT hS
        cases line
        · have hcv : cv = .iface 97 (.agg #[]) := HCV.out.symm
          subst hcv
          have ta1 : ∀ W, (Instr.typeAssert (.iface 97 (.agg #[])) 68 96 true).run Tryz.prog W = .ok (.tuple #[.agg #[], .bool false]) W := fun _ => by kernel_rfl
          have ta2 : ∀ W, (Instr.typeAssert (.iface 97 (.agg #[])) 68 97 true).run Tryz.prog W = .ok (.tuple #[.agg #[], .bool true]) W := fun _ => by kernel_rfl
          have hx := HS.out.x
          have hz := HS.out.z
          go_upto_region 21 with fail
          refine wp_region_lit ?_
          refine wpList_load_row rfl 114 (.tmp 3) rfl (w.heap.size + 1) rfl 114 _ (0, 0) _ hx Tryz.underlying114 rfl (by kernel_rfl) ?_
          refine wpList_store_row rfl 114 (.tmp 2) (.tmp 118) rfl w.heap.size _ rfl rfl 114 _ hz (by kernel_rfl) rfl (by simp [Value.oneCell']) ?_
          have HF := Lib.hid (ret_box hz HS.out.g HS.out.r HS.out.hR #[.int .i64 1, .int .i64 0, .int .i64 0, .int .i64 tn, .bool mi, .int .i64 0, .int .i64 0, .int .i64 0, .string (s.extract k E), .int .i64 k, .slice none 0 0])
          clear hx hz
          go_wp2_with fail
          obtain ⟨f1, f2, f3, f4⟩ := HF.out
          refine bodyPost_ret (results_cell_row Tryz.results161 _ _ w.heap.size 114 _ (0, 0) _ rfl f3 Tryz.underlying114 rfl (by kernel_rfl)) rfl ?_
          rw [HQ3.out]
          refine ⟨f1, ?_, _, rfl, 0, none, 0, ?_, rfl, RdH.nil _ _ _⟩
          · exact f2
          · show _ = aggI _ _ _ _ _
            unfold aggI
            rw [show (Cd.Item.mk (Cd.glyphN tn mi (if false = true then Cd.stateOf s.data.toList[e2]? else 0)) (List.take (E - k) (List.drop k s.data.toList)) k []).code = List.take (E - k) (List.drop k s.data.toList) from rfl, HE2.out]
            rfl
        · have hcv : cv = .iface 96 (.agg #[]) := HCV.out.symm
          subst hcv
          have ta1 : ∀ W, (Instr.typeAssert (.iface 96 (.agg #[])) 68 96 true).run Tryz.prog W = .ok (.tuple #[.agg #[], .bool true]) W := fun _ => by kernel_rfl
          obtain ⟨i, hi1, hi2, hi3, hi4, hi5⟩ := idx_state s e2
          have HIX : Hid (∀ W : World, Calls Tryz.prog 167 #[.string { data := #[35, 61, 33] }, .int .u8 (nextB s e2)] W (fun e w' => e = .returned (.int .i64 i) ∧ w' = W)) := Lib.hid fun W => by
            have := Tryz.strings_IndexByte ⟨#[35, 61, 33]⟩ (nextB s e2) W
            rw [← hi1]
            exact this
          have HN4 := Lib.hid (next_any R (.iface 96 (.agg #[])) s e2 wc HS.out.r)
          unfold RetN at HN4
          have HST : Hid (Cd.glyphG s.data.toList true k = .ok (.mk (Cd.glyphN tn mi (i + 1)) ((s.data.toList.drop k).take (E - k)) k []) (if i + 1 = 0 then e2 else e2 + 1)) := Lib.hid (by
            rw [HQ3.out]
            simp only [if_true, hi2])
          generalize nextB s e2 = m2 at HN4 HIX
          clear hi1 hi2 HQ3
          have HQ3 := HST
          go_wp2_with fail
          refine HN4.out.mono ?_
          rintro e w4 ⟨rfl, hb4⟩
          have HS4 := Lib.hid (HS.out.below hb4)
          clear hb4 c0 c1 c2 f2
          go_wp2_with fail
          refine (HIX.out _).mono ?_
          rintro e w5 ⟨rfl, rfl⟩
          by_cases hi0 : 0 ≤ i
          · have d1 : decide (0 ≤ i) = true := by simpa using hi0
            have x5 := (in_box HS4.out.x 5).1
            have y5 := (in_box HS4.out.x 5).2
            simp at x5
            have hlt5 := hi5 hi0
            go_upto_region 19 with fail
            obtain ⟨w6, hw6⟩ : ∃ w6, w6 = w5.setCell ⟨w.heap.size + 1, 5, none⟩ (.int .i64 (i + 1)) := ⟨_, rfl⟩
            rw [← hw6]
            have hs6 : St w R _ s e2 (w.heap.size + 1) #[.int .i64 1, .int .i64 0, .int .i64 0, .int .i64 tn, .bool mi, .int .i64 (i + 1), .int .i64 0, .int .i64 0, .string (s.extract k E), .int .i64 k, .slice none 0 0] _ := HS4.out.set 5 (.int .i64 (i + 1))
            rw [← hw6] at hs6
            obtain ⟨c0, c1, c2, f2, hlt6⟩ := hs6.r.at
            have HS6 := Lib.hid hs6
            clear hw6 hs6 x5 y5
            go_upto_region 21 with fail
            have hst := HS6.out.next hlt5
            obtain ⟨w7, hw7⟩ : ∃ w7, w7 = w6.setCell ⟨R, 2, none⟩ (.int .i64 ((e2 : Int) + 1)) := ⟨_, rfl⟩
            rw [← hw7] at hst ⊢
            have hx := hst.x
            have hz := hst.z
            clear hw7 c0 c1 c2 f2
            refine wp_region_lit ?_
            refine wpList_load_row rfl 114 (.tmp 3) rfl (w.heap.size + 1) rfl 114 _ (0, 0) _ hx Tryz.underlying114 rfl (by kernel_rfl) ?_
            refine wpList_store_row rfl 114 (.tmp 2) (.tmp 118) rfl w.heap.size _ rfl rfl 114 _ hz (by kernel_rfl) rfl (by simp [Value.oneCell']) ?_
            have HF := Lib.hid (ret_box hz hst.g hst.r hst.hR #[.int .i64 1, .int .i64 0, .int .i64 0, .int .i64 tn, .bool mi, .int .i64 (i + 1), .int .i64 0, .int .i64 0, .string (s.extract k E), .int .i64 k, .slice none 0 0])
            clear hx hz hst
            go_wp2_with fail
            obtain ⟨f1, f2, f3, f4⟩ := HF.out
            refine bodyPost_ret (results_cell_row Tryz.results161 _ _ w.heap.size 114 _ (0, 0) _ rfl f3 Tryz.underlying114 rfl (by kernel_rfl)) rfl ?_
            rw [HQ3.out]
            refine ⟨f1, ?_, _, rfl, 0, none, 0, ?_, rfl, RdH.nil _ _ _⟩
            · rw [if_neg (by omega)]; exact f2
            · show _ = aggI _ _ _ _ _
              unfold aggI
              rw [show (Cd.Item.mk (Cd.glyphN tn mi (i + 1)) (List.take (E - k) (List.drop k s.data.toList)) k []).code = List.take (E - k) (List.drop k s.data.toList) from rfl, HE2.out]
              rfl
          · have d1 : decide (0 ≤ i) = false := by simpa using hi0
            have hst := HS4.out
            have hx := hst.x
            have hz := hst.z
            have hi6 : i = -1 := by omega
            clear hi0 hi3 hi4 hi5
            go_upto_region 21 with fail
            refine wp_region_lit ?_
            refine wpList_load_row rfl 114 (.tmp 3) rfl (w.heap.size + 1) rfl 114 _ (0, 0) _ hx Tryz.underlying114 rfl (by kernel_rfl) ?_
            refine wpList_store_row rfl 114 (.tmp 2) (.tmp 118) rfl w.heap.size _ rfl rfl 114 _ hz (by kernel_rfl) rfl (by simp [Value.oneCell']) ?_
            have HF := Lib.hid (ret_box hz hst.g hst.r hst.hR #[.int .i64 1, .int .i64 0, .int .i64 0, .int .i64 tn, .bool mi, .int .i64 0, .int .i64 0, .int .i64 0, .string (s.extract k E), .int .i64 k, .slice none 0 0])
            clear hx hz hst
            go_wp2_with fail
            obtain ⟨f1, f2, f3, f4⟩ := HF.out
            refine bodyPost_ret (results_cell_row Tryz.results161 _ _ w.heap.size 114 _ (0, 0) _ rfl f3 Tryz.underlying114 rfl (by kernel_rfl)) rfl ?_
            rw [HQ3.out]
            refine ⟨f1, ?_, _, rfl, 0, none, 0, ?_, rfl, RdH.nil _ _ _⟩
            · rw [if_pos (by omega)]; exact f2
            · show _ = aggI _ _ _ _ _
              unfold aggI
              rw [show (Cd.Item.mk (Cd.glyphN tn mi (i + 1)) (List.take (E - k) (List.drop k s.data.toList)) k []).code = List.take (E - k) (List.drop k s.data.toList) from rfl, HE2.out]
              rw [hi6]; rfl
  · have HQ2 : Hid (Cd.glyphG s.data.toList line k = .bad k) := Lib.hid (by
      rw [HQ.out]
      cases hb : s.data.toList[k]? with
      | none => rfl
      | some c =>
        have hn := nextB_eq hb
        have e : (65 : UInt8).toNat = 65 ∧ (90 : UInt8).toNat = 90 := by decide
        simp only
        rw [if_neg (by unfold Cd.upperB; simp only [decide_eq_true_eq, UInt8.le_iff_toNat_le]; rw [e.1, e.2]; omega)])
    generalize nextB s k = m at HN hup
    have HM : ∃ b1 b2 : Bool, decide (m < 65) = b1 ∧ decide (90 < m) = b2 ∧ (b1 = true ∨ (b1 = false ∧ b2 = true)) := ⟨_, _, rfl, rfl, by simp; omega⟩
    obtain ⟨b1, b2, g1, g2, hb12⟩ := HM
    rcases hb12 with rfl | ⟨rfl, rfl⟩ <;>
    ( go_enter Tryz.func161, Tryz.ntmps161
      go_upto_region 2 with fail
      rw [← HW1.out]
      clear c0 c1 c2 f2
      go_wp2_with fail
      refine HN.out.mono ?_
      rintro e w1 ⟨rfl, hb⟩
      have HF := Lib.hid (fail_any R cv s k w1 (HR1.out.keep (hb.block R hlt1)))
      have HB := Lib.hid hb
      clear hb
      go_wp2_with fail
      refine HF.out.mono ?_
      rintro e w2 ⟨rfl, hb2⟩
      rw [HQ2.out]
      exact ⟨rfl, grown_below (grown_of_below (HB1.out.trans (HB.out.mono (by omega)))) hb2, rfl⟩ )
end Go.Proofs.YtenmkbpdkfhbjaaGreat
