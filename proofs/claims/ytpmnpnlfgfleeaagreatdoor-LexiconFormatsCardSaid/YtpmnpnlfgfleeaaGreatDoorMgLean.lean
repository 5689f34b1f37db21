/- lexicon.lean: a match, and those with more clitics. -/
import Derived.Lib.IndexBytes
import Derived.Test.YtpmnpnlfgfleeaaGreatDoorMgClone
import Derived.Deep.DeepCutAuto
namespace Go.Proofs.YtpmnpnlfgfleeaaGreatDoor
open Go.RowKit

/-- the cells of one match -/
def enc4 (q : Int × Int × (Option Addr × Nat × Nat) × Int) : List Value := [.int .i64 q.1, .int .i64 q.2.1, .slice q.2.2.1.1 q.2.2.1.2.1 q.2.2.1.2.2, .int .i64 q.2.2.2]
theorem len_4 (q : Int × Int × (Option Addr × Nat × Nat) × Int) : (enc4 q).length = 4 := rfl
theorem one_4 (q : Int × Int × (Option Addr × Nat × Nat) × Int) : ∀ u ∈ enc4 q, u.oneCell' = true := by intro u hu; simp [enc4] at hu; rcases hu with rfl | rfl | rfl | rfl <;> rfl
theorem info_match : (Tryz.prog.info? 87).map (fun i => (i.zero, i.size, i.bytes)) = some (some (.agg #[.int .i64 0, .int .i64 0, .slice none 0 0, .int .i64 0]), 4, 48) := by kernel_rfl

/-- A match as a value: its inner slice not in the row g. -/
def RdM (w : World) (base : Nat) (g : Option Nat) (v : Value) (m : Lx.Match) : Prop :=
  ∃ A c, v = .agg #[.int .i64 m.entry, .int .i64 m.ending, .slice A m.clitics.length c, .int .i64 m.long] ∧ RdX w (fun b => b < w.heap.size ∧ g ≠ some b ∧ base ≤ b) 1 encInt (.slice A m.clitics.length c) m.clitics

/-- appended: one match more -/
theorem own_snoc {w w' : World} {base : Nat} {v v' : Value} {ms : List Lx.Match} {m : Lx.Match} {A : Option Addr} {c : Nat} {cells : List Value} (h2 : mrows w (fun b => b < w.heap.size ∧ v.ownBlock ≠ some b ∧ base ≤ b) cells ms)
    (hm : RdX w (fun b => b < w.heap.size ∧ v.ownBlock ≠ some b ∧ base ≤ b) 1 encInt (.slice A m.clitics.length c) m.clitics)
    (hown : w'.ownsRow base 87 4 v' (ms.length + 1) (cells ++ [.int .i64 m.entry, .int .i64 m.ending, .slice A m.clitics.length c, .int .i64 m.long]))
    (hg : w.grownBy w' v.ownBlock) (hat : v'.ownBlock = v.ownBlock ∨ ∃ g, v'.ownBlock = some g ∧ w.heap.size ≤ g) :
    OwnM w' base v' (ms ++ [m]) ∧ RdX w' (fun b => b < w'.heap.size ∧ v'.ownBlock ≠ some b ∧ base ≤ b) 1 encInt (.slice A m.clitics.length c) m.clitics := by
  have hk : ∀ b, (b < w.heap.size ∧ v.ownBlock ≠ some b ∧ base ≤ b) → (b < w'.heap.size ∧ v'.ownBlock ≠ some b ∧ base ≤ b) ∧ w'.heap[b]? = w.heap[b]? := by
    intro b ⟨hb, hne, hbs⟩
    refine ⟨⟨Nat.lt_of_lt_of_le hb hg.size, ?_, hbs⟩, hg.block b hb (fun e => hne e.symm)⟩
    rcases hat with e | ⟨g, e, hge⟩
    · rw [e]; exact hne
    · rw [e]; intro q; cases q; omega
  refine ⟨⟨_, ?_, mrows_snoc ⟨rfl, rfl, hm.keep hk, rfl, trivial⟩ _ _ (mrows_keep hk _ _ h2)⟩, hm.keep hk⟩
  rw [List.length_append]
  exact hown
theorem heap3 (w : World) (A B C : Obj) : (((w.alloc A).alloc B).alloc C).heap[w.heap.size]? = some A ∧ (((w.alloc A).alloc B).alloc C).heap[w.heap.size + 1]? = some B ∧
    (((w.alloc A).alloc B).alloc C).heap[w.heap.size + 2]? = some C ∧ (((w.alloc A).alloc B).alloc C).heap.size = w.heap.size + 3 := by
  have s1 : ∀ (W : World) (o : Obj), (W.alloc o).heap.size = W.heap.size + 1 := fun W o => by simp
  refine ⟨?_, ?_, ?_, by rw [s1, s1, s1]⟩
  · rw [Below.heap_alloc _ _ _ (by rw [s1, s1]; omega), Below.heap_alloc _ _ _ (by rw [s1]; omega)]
    exact heap_alloc_new w A
  · rw [Below.heap_alloc _ _ _ (by rw [s1, s1]; omega)]
    have := heap_alloc_new (w.alloc A) B
    rwa [s1] at this
  · have := heap_alloc_new ((w.alloc A).alloc B) C
    rwa [s1, s1] at this
theorem below3 (w : World) (A B C : Obj) : Below w.heap.size w (((w.alloc A).alloc B).alloc C) := by
  have s1 : ∀ (W : World) (o : Obj), (W.alloc o).heap.size = W.heap.size + 1 := fun W o => by simp
  exact (((Below.refl _ _).alloc (Nat.le_refl _) _).alloc (by rw [s1]; omega) _).alloc (by rw [s1, s1]; omega) _
theorem grown_of_below {w w' : World} {row : Option Nat} (h : Below w.heap.size w w') : w.grownBy w' row := ⟨h.os, h.tape, h.output, h.size, fun k hk _ => h.block k hk⟩
theorem grown_after {a b c : World} {row row' : Option Nat} (h : a.grownBy b row) (k : b.grownBy c row') (hr : row' = row ∨ ∃ g, row' = some g ∧ a.heap.size ≤ g) : a.grownBy c row :=
  ⟨k.os.trans h.os, k.tape.trans h.tape, k.output.trans h.output, Nat.le_trans h.size k.size, fun i hi hne => (k.block i (Nat.lt_of_lt_of_le hi h.size) (by
    rcases hr with e | ⟨g, e, hg⟩
    · rw [e]; exact hne
    · rw [e]; intro q; cases q; omega)).trans (h.block i hi hne)⟩

theorem after3 {w w1 : World} {A B C : Obj} {row : Option Nat} (hg : (((w.alloc A).alloc B).alloc C).grownBy w1 row) (hrow : ∀ g, row = some g → g < w.heap.size) :
    w1.heap[w.heap.size]? = some A ∧ w1.heap[w.heap.size + 1]? = some B ∧ w.heap.size + 3 ≤ w1.heap.size ∧ w.grownBy w1 row := by
  obtain ⟨a, b, _, d⟩ := heap3 w A B C
  refine ⟨?_, ?_, by have := hg.size; omega, grown_after (grown_of_below (below3 w A B C)) hg (.inl rfl)⟩
  · rw [hg.block _ (by omega) (fun e => by have := hrow _ e.symm; omega)]; exact a
  · rw [hg.block _ (by omega) (fun e => by have := hrow _ e.symm; omega)]; exact b
theorem keep3 {w : World} {A B C : Obj} {ok : Nat → Prop} (b : Nat) (h : b < w.heap.size ∧ ok b) : (b < (((w.alloc A).alloc B).alloc C).heap.size ∧ ok b) ∧ (((w.alloc A).alloc B).alloc C).heap[b]? = w.heap[b]? :=
  ⟨⟨by have := (heap3 w A B C).2.2.2; omega, h.2⟩, (below3 w A B C).block b h.1⟩

theorem rdx_of_own {α : Type} {enc : α → List Value} {size : Nat} {w : World} {base : Nat} {e : TypeId} {v : Value} {xs : List α} (hu : ∀ x, (enc x).length = size) (h : w.ownsRow base e size v xs.length (xs.flatMap enc)) : RdX w (fun b => base ≤ b ∧ b < w.heap.size) size enc v xs := by
  obtain ⟨_, h2⟩ := id h
  rcases h2 with ⟨rfl, h0⟩ | ⟨g, cap, cur, rfl, hg, hh, hle, hm, hs, ht⟩
  · exact ⟨none, 0, by rw [h0], by omega, by omega, fun hp => by omega⟩
  · refine ⟨some ⟨g, 0, none⟩, cap, rfl, hle, by simpa [maxLen] using hm, fun _ => ⟨g, 0, rfl, ⟨hg, (h.lt g rfl).2⟩, fun i x hx j u hj => ?_⟩⟩
    have := h.cells rfl (i * size + j) u (flat_at hu xs i x hx j u hj)
    rw [addr_add] at this
    rw [← this, Nat.add_assoc]
theorem pre_eq (s : ByteArray) (k : Nat) (p : ByteArray) : Lib.hasPrefix (s.extract k s.size).data.toList p.data.toList = Lx.pre s k p := by
  rw [Lib.extract_to_end]; rfl

/-- What lean does, for one number of clitics that may still come. -/
def LeanSays (x : Lx.Lexicon) (s : ByteArray) (fuel : Nat) : Prop :=
  ∀ (m : Lx.Match) (first : Nat) (ms : List Lx.Match) (vx vm vo : Value) (w : World) (base : Nat), m.clitics.length + fuel = 3 → first ≤ x.clitics.length → m.long ≤ s.size →
    RdL w base vx x → RdM w base vo.ownBlock vm m → OwnM w base vo ms → base ≤ w.heap.size → ms.length + 11 ^ fuel ≤ 100000000 →
    Calls Tryz.prog 101 #[vx, .string s, vm, .int .i64 first, vo] w (fun e w' => ∃ v', e = .returned v' ∧ OwnM w' base v' (ms ++ Lx.leanF x s fuel m first) ∧ w.grownBy w' vo.ownBlock ∧
      (v'.ownBlock = vo.ownBlock ∨ ∃ g, v'.ownBlock = some g ∧ w.heap.size ≤ g))

set_option maxRecDepth 100000 in
set_option maxHeartbeats 4000000 in
theorem lean_step (x : Lx.Lexicon) (s : ByteArray) (hchk : Lx.checkV x = 0) (hs : s.size ≤ 1000) (fuel : Nat) (ih : ∀ k, fuel = k + 1 → LeanSays x s k) : LeanSays x s fuel := by
  intro m first ms vx vm vo w base hfu hfi hml hr hm ho hbase hcap
  have IH := Lib.hid ih
  have HR := Lib.hid hr
  have HM := Lib.hid hm
  have HO := Lib.hid ho
  have HCHK := Lib.hid hchk
  clear ih hchk
  obtain ⟨⟨v0, v1, v2, rfl, ⟨A0, c0, rfl, -⟩, ⟨A1, c1, rfl, -⟩, ⟨A2, c2, rfl, hl2, hm2, hc2⟩⟩, -, -, -⟩ := hr
  obtain ⟨Am, cm, rfl, ⟨_, _, hveq, hlm, hmm, _⟩⟩ := hm
  cases hveq
  have hn2 : x.clitics.length ≤ 9223372036854775807 := by omega
  have hnm : m.clitics.length ≤ 3 := by omega
  have HC2 := Lib.hid hc2
  obtain ⟨i0, hi0, hz0, hs0, hb0⟩ := info_parts info_match
  obtain ⟨cells, hown, hrows⟩ := ho
  obtain ⟨Ao, co, rfl⟩ := own_form hown
  have HOWN := Lib.hid hown
  have HROWS := Lib.hid hrows
  clear hc2 hl2 hm2 hown hrows hlm
  have h11 : 0 < 11 ^ fuel := Nat.pow_pos (by omega)
  have hms : ms.length + 1 ≤ 100000000 := by omega
  have hlnI : (m.long : Int) ≤ (s.size : Int) := by omega
  have HCAP := Lib.hid hcap
  clear h11 hcap
  go_enter Tryz.func101, Tryz.ntmps101
  go_wp2_with (at_builtin; go_must (refine wpList_append_rd (enc := enc4) rfl (.tmp 14) (.tmp 16) _ rfl base 87 i0 _ 4 48 len_4 one_4 Tryz.underlying85 hi0 hz0 hs0 hb0 rfl (by decide) (.slice Ao ms.length co) ms.length cells rfl ?ho (w.heap.size + 3) _ [(m.entry, m.ending, (Am, m.clitics.length, cm), (m.long : Int))] rfl ?hr ?h63 ?hb ?hB ?_))
  case ho => exact ((HOWN.out.alloc _).alloc _).alloc _
  case hr => exact rds_block (xs := [(m.entry, m.ending, (Am, m.clitics.length, cm), (m.long : Int))]) len_4 (heap3 _ _ _ _).2.2.1 rfl (by omega) (Nat.le_refl 1) (by decide)
  case h63 => simp only [maxLen]; show ms.length + 1 ≤ _; omega
  case hb => show (ms.length + 1) * 48 ≤ _; omega
  case hB => omega
  intro v1 w1 hown1 hg1 hat1
  obtain ⟨hx1, hm1, hz1, hgw1⟩ := after3 hg1 (fun g hg => (HOWN.out.lt g hg).2)
  obtain ⟨hOM, hXM⟩ := own_snoc (m := m) (mrows_keep keep3 _ _ HROWS.out) (by obtain ⟨A', c', e1, e2⟩ := HM.out; cases e1; exact e2.keep keep3) (by simpa [enc4] using hown1) hg1 (hat1.imp id fun e => ⟨_, e, by rw [(heap3 _ _ _ _).2.2.2]; omega⟩)
  have hat : v1.ownBlock = (Value.slice Ao ms.length co).ownBlock ∨ ∃ g, v1.ownBlock = some g ∧ w.heap.size + 3 ≤ g := by
    rcases hat1 with e | e
    · exact .inl e
    · exact .inr ⟨_, e, by omega⟩
  obtain ⟨A1', c1', rfl⟩ := own_form hown1
  have cx : ∀ (W : World), W.heap[w.heap.size]? = some (.cells #[.slice A0 x.entries.length c0, .slice A1 x.endings.length c1, .slice A2 x.clitics.length c2] 26 (0, 0)) →
      W.cell? ⟨w.heap.size, 0, none⟩ = some (.slice A0 x.entries.length c0) ∧ W.cell? ⟨w.heap.size, 1, none⟩ = some (.slice A1 x.endings.length c1) ∧ W.cell? ⟨w.heap.size, 2, none⟩ = some (.slice A2 x.clitics.length c2) :=
    fun W h => ⟨by simp [World.cell?, h], by simp [World.cell?, h], by simp [World.cell?, h]⟩
  have cm' : ∀ (W : World), W.heap[w.heap.size + 1]? = some (.cells #[.int .i64 m.entry, .int .i64 m.ending, .slice Am m.clitics.length cm, .int .i64 m.long] 87 (0, 0)) →
      W.cell? ⟨w.heap.size + 1, 0, none⟩ = some (.int .i64 m.entry) ∧ W.cell? ⟨w.heap.size + 1, 1, none⟩ = some (.int .i64 m.ending) ∧ W.cell? ⟨w.heap.size + 1, 2, none⟩ = some (.slice Am m.clitics.length cm) ∧ W.cell? ⟨w.heap.size + 1, 3, none⟩ = some (.int .i64 m.long) :=
    fun W h => ⟨by simp [World.cell?, h], by simp [World.cell?, h], by simp [World.cell?, h], by simp [World.cell?, h]⟩
  have CX := Lib.hid cx
  have CM := Lib.hid cm'
  have HX1 := Lib.hid hx1
  have HM1 := Lib.hid hm1
  have HGW1 := Lib.hid hgw1
  have HOM := Lib.hid hOM
  have HXM := Lib.hid hXM
  have HAT := Lib.hid hat
  clear cx cm' hx1 hm1 hgw1 hOM hXM hat hat1 hg1 hown1
  obtain ⟨x0, x1, x2⟩ := CX.out w1 HX1.out
  obtain ⟨y0, y1, y2, y3⟩ := CM.out w1 HM1.out
  by_cases h3 : m.clitics.length = 3
  · have hq : ((m.clitics.length : Int) == 3) = true := by simp [h3]
    have hf0 : fuel = 0 := by omega
    have HF : Hid (Lx.leanF x s fuel m first = [m]) := Lib.hid (by rw [hf0]; rfl)
    clear h3 hf0
    go_wp2_with fail
    go_ret
    exact ⟨_, rfl, by rw [HF.out]; exact HOM.out, HGW1.out, HAT.out.imp id (fun ⟨g, e, h⟩ => ⟨g, e, by omega⟩)⟩
  · have hq : ((m.clitics.length : Int) == 3) = false := by simp; omega
    obtain ⟨k, hk⟩ : ∃ k, fuel = k + 1 := ⟨fuel - 1, by omega⟩
    have HK := Lib.hid hk
    have HIH := Lib.hid (IH.out k hk)
    have H3 := Lib.hid h3
    clear hk h3
    have HLF : Hid (Lx.leanF x s fuel m first = m :: Lx.leanTo x s k m first x.clitics.length) := Lib.hid (by rw [HK.out]; exact Lx.leanF_succ H3.out)
    have hn10 : x.clitics.length ≤ 10 := by
      have := (Lx.check_parts HCHK.out).1
      simp [Lx.tooMany] at this
      omega
    go_wp2_with fail
    go_loopg [4, 11] (x.clitics.length - first) (fun g v i wr => ∃ j : Nat, first ≤ j ∧ j ≤ x.clitics.length ∧ g = x.clitics.length - j ∧ i = .int .i64 j ∧ (∃ A n c, v = .slice A n c) ∧ OwnM wr base v (ms ++ m :: Lx.leanTo x s k m first j) ∧
      w.grownBy wr (Value.slice Ao ms.length co).ownBlock ∧ w.heap.size + 3 ≤ wr.heap.size ∧ (v.ownBlock = (Value.slice Ao ms.length co).ownBlock ∨ ∃ g, v.ownBlock = some g ∧ w.heap.size + 3 ≤ g) ∧
      wr.heap[w.heap.size]? = some (.cells #[.slice A0 x.entries.length c0, .slice A1 x.endings.length c1, .slice A2 x.clitics.length c2] 26 (0, 0)) ∧
      wr.heap[w.heap.size + 1]? = some (.cells #[.int .i64 m.entry, .int .i64 m.ending, .slice Am m.clitics.length cm, .int .i64 m.long] 87 (0, 0)) ∧
      RdX wr (fun b => b < wr.heap.size ∧ v.ownBlock ≠ some b ∧ base ≤ b) 1 encInt (.slice Am m.clitics.length cm) m.clitics)
    case atStart => exact ⟨first, Nat.le_refl _, hfi, rfl, rfl, ⟨_, _, _, rfl⟩, by rw [Lx.leanTo_self]; exact HOM.out, HGW1.out, hz1, HAT.out, HX1.out, HM1.out, HXM.out⟩
    case round =>
      obtain ⟨j, hj1, hj2, rfl, rfl, ⟨Av, nv, cv, rfl⟩, hom, hgw, hzr, hat, hx, hm, hxm⟩ := hrel
      clear x0 x1 x2 y0 y1 y2 y3 hz1 HX1 HM1 HGW1 HOM HXM HAT
      obtain ⟨x0, x1, x2⟩ := CX.out wr hx
      obtain ⟨y0, y1, y2, y3⟩ := CM.out wr hm
      have HX := Lib.hid hx
      have HMM := Lib.hid hm
      have HGW := Lib.hid hgw
      have HOM := Lib.hid hom
      have HXM := Lib.hid hxm
      have HAT := Lib.hid hat
      clear hom hgw hat hx hm hxm
      by_cases hlt : j < x.clitics.length
      · obtain ⟨b2, off2, rfl, hb2, hcell2⟩ := HC2.out (by omega)
        obtain ⟨g, hg⟩ : ∃ g, x.clitics[j]? = some g := ⟨_, List.getElem?_eq_getElem hlt⟩
        have hbel : Below base w wr := (Below.refl base w).grown HGW.out hbase (fun k hk => (HOWN.out.lt k hk).1)
        have g0 : wr.cell? ⟨b2, off2 + j * 3, none⟩ = some (.string g.text) := (hbel.cell hb2).trans (hcell2 _ g hg 0 _ rfl)
        have hg4 := (Lx.ok_clitic (Lx.good_at (Lx.check_parts HCHK.out).2.2.2 hg)).2.1
        have HG := Lib.hid hg
        have HBEL := Lib.hid hbel
        have hjI : (0 : Int) ≤ (j : Int) := by omega
        have hjJ : (j : Int) < (x.clitics.length : Int) := by omega
        have hlI : (0 : Int) ≤ (m.long : Int) := by omega
        clear hcell2 hg hbel
        go_wp2_with fail
        cases hp : Lx.pre s m.long g.text
        · have HN : Hid (Lx.leanTo x s k m first (j + 1) = Lx.leanTo x s k m first j) := Lib.hid (by
            rw [Lx.leanTo_succ hj1, Lx.leanC, HG.out]; simp [hp])
          have HP := Lib.hid hp
          clear hp
          refine (Tryz.strings_HasPrefix _ _ wr).mono ?_
          rw [pre_eq, HP.out]
          rintro e1 w2 ⟨rfl, rfl⟩
          go_wp2_with fail
          go_roundg (x.clitics.length - (j + 1))
          case measure => omega
          case rel => exact ⟨j + 1, by omega, by omega, rfl, by go_num, ⟨_, _, _, rfl⟩, by rw [HN.out]; exact HOM.out, HGW.out, hzr, HAT.out, HX.out, HMM.out, HXM.out⟩
        · have HN : Hid (Lx.leanTo x s k m first (j + 1) = Lx.leanTo x s k m first j ++ Lx.leanF x s k ⟨m.entry, m.ending, m.clitics ++ [(j : Int)], m.long + g.text.size⟩ (j + 1)) := Lib.hid (by
            rw [Lx.leanTo_succ hj1, Lx.leanC, HG.out]; simp [hp])
          have HPS : Hid (m.long + g.text.size ≤ s.size) := Lib.hid (Lx.pre_size hp)
          have HP := Lib.hid hp
          clear hp
          refine (Tryz.strings_HasPrefix _ _ wr).mono ?_
          rw [pre_eq, HP.out]
          rintro e1 w2 ⟨rfl, rfl⟩
          have hwrlt : w.heap.size < w2.heap.size := by omega
          have hwrlt' : w.heap.size + 1 < w2.heap.size := by omega
          go_wp2_with fail
          refine (cloneInt_any (.slice Am m.clitics.length cm) m.clitics _ w2.heap.size ((HXM.out.to (fun b h => h.1)).below ((Below.refl _ _).alloc (Nat.le_refl _) _)) (by omega)).mono ?_
          rintro e3 w3 ⟨v3, rfl, hown3, hb3⟩
          have hs4 : (w2.alloc (.cells #[.int .i64 m.entry, .int .i64 m.ending, .slice Am m.clitics.length cm, .int .i64 (↑m.long + ↑g.text.size)] 87)).heap.size = w2.heap.size + 1 := by simp
          have hz3 : w2.heap.size + 1 ≤ w3.heap.size := by have := hb3.size; omega
          have hN3 : w3.heap[w2.heap.size]? = some (.cells #[.int .i64 m.entry, .int .i64 m.ending, .slice Am m.clitics.length cm, .int .i64 (↑m.long + ↑g.text.size)] 87 (0, 0)) := by
            rw [hb3.block _ (by omega)]; exact heap_alloc_new _ _
          have hW3 : Below w2.heap.size w2 w3 := ((Below.refl _ _).alloc (Nat.le_refl _) _).trans (hb3.mono (by omega))
          rw [hs4] at hown3
          obtain ⟨A5, c5, rfl⟩ := own_form hown3
          have HOWN3 := Lib.hid hown3
          have HN3 := Lib.hid hN3
          have HW3 := Lib.hid hW3
          obtain ⟨ii, hii, hzi, hsi, hbi⟩ := info_parts info_int
          clear hown3 hN3 hW3 hb3 hs4
          go_wp2_with (at_builtin; go_must (refine wpList_append_rd (enc := encInt) rfl (.tmp 55) (.tmp 57) _ rfl (w2.heap.size + 1) 3 ii _ 1 8 len_int one_int Tryz.underlying27 hii hzi hsi hbi rfl (by decide) (.slice A5 m.clitics.length c5) m.clitics.length (m.clitics.flatMap encInt) rfl ?ho2 (w3.heap.size + 1) _ [(j : Int)] rfl ?hr2 ?h632 ?hb2 ?hB2 ?_))
          case ho2 => exact HOWN3.out.alloc _
          case hr2 => exact rds_block (xs := [(j : Int)]) len_int (heap_alloc_new _ _) rfl (by omega) (Nat.le_refl 1) (by decide)
          case h632 => simp only [maxLen]; show m.clitics.length + 1 ≤ _; omega
          case hb2 => show (m.clitics.length + 1) * 8 ≤ _; omega
          case hB2 => show w2.heap.size + 1 ≤ _; simp; omega
          intro v5 w5 hown5 hg5 hat5
          have hown5' : w5.ownsRow (w2.heap.size + 1) 3 1 v5 (m.clitics ++ [(j : Int)]).length ((m.clitics ++ [(j : Int)]).flatMap encInt) := by
            rw [List.length_append, List.flatMap_append]; exact hown5
          have hz5 : w3.heap.size + 1 ≤ w5.heap.size := by have := hg5.size; simp at this; omega
          have h35 : Below (w2.heap.size + 1) w3 w5 := ((Below.refl _ _).alloc hz3 _).grown hg5 (by simp; omega) (fun k hk => (HOWN3.out.lt k hk).1)
          have hN5 := (h35.block w2.heap.size (by omega)).trans HN3.out
          have hb25 : Below w2.heap.size w2 w5 := HW3.out.trans (h35.mono (by omega))
          obtain ⟨A6, c6, rfl⟩ := own_form hown5'
          have n0 : w5.cell? ⟨w2.heap.size, 0, none⟩ = some (.int .i64 m.entry) := by simp [World.cell?, hN5]
          have n1 : w5.cell? ⟨w2.heap.size, 1, none⟩ = some (.int .i64 m.ending) := by simp [World.cell?, hN5]
          have n2 : w5.cell? ⟨w2.heap.size, 2, none⟩ = some (.slice Am m.clitics.length cm) := by simp [World.cell?, hN5]
          have n3 : w5.cell? ⟨w2.heap.size, 3, none⟩ = some (.int .i64 (↑m.long + ↑g.text.size)) := by simp [World.cell?, hN5]
          have nz : w5.frozen? ⟨w2.heap.size, 2, none⟩ = false := by simp [World.frozen?, hN5]
          have x0' := (hb25.cell (p := ⟨w.heap.size, 0, none⟩) hwrlt).trans x0
          have x1' := (hb25.cell (p := ⟨w.heap.size, 1, none⟩) hwrlt).trans x1
          have x2' := (hb25.cell (p := ⟨w.heap.size, 2, none⟩) hwrlt).trans x2
          have HOWN5 := Lib.hid hown5'
          have HB25 := Lib.hid hb25
          have hne : w.heap.size ≠ w2.heap.size := by omega
          clear hown5 hown5' hg5 hat5 h35 hN5 hb25 x0 x1 x2 y0 y1 y2 y3 g0
          go_wp2_with fail
          obtain ⟨cv', hov, _⟩ := id HOM.out
          have hvlt : ∀ q, (Value.slice Av nv cv).ownBlock = some q → q < w2.heap.size := fun q hq => (hov.lt q hq).2
          have hb26 : Below w2.heap.size w2 (w5.setCell ⟨w2.heap.size, 2, none⟩ (.slice A6 (m.clitics.length + 1) c6)) := HB25.out.setCell (by simp) _
          have hs6 : (w5.setCell ⟨w2.heap.size, 2, none⟩ (.slice A6 (m.clitics.length + 1) c6)).heap.size = w5.heap.size := by simp [World.setCell]
          have hown6 := ownsRow_setCell_below HOWN5.out (a := ⟨w2.heap.size, 2, none⟩) (by simp) (.slice A6 (m.clitics.length + 1) c6)
          have hx6 := rdx_of_own len_int hown6
          have hrm : RdM (w5.setCell ⟨w2.heap.size, 2, none⟩ (.slice A6 (m.clitics.length + 1) c6)) base (Value.slice Av nv cv).ownBlock
              (.agg #[.int .i64 m.entry, .int .i64 m.ending, .slice A6 (m.clitics.length + 1) c6, .int .i64 (↑m.long + ↑g.text.size)]) ⟨m.entry, m.ending, m.clitics ++ [(j : Int)], m.long + g.text.size⟩ := by
            refine ⟨A6, c6, ?_, ?_⟩
            · simp
            · refine hx6.keep fun b hb => ⟨⟨hb.2, (fun e => ?_), by have := hb.1; omega⟩, rfl⟩
              have := hvlt b e
              omega
          have hcapk : (ms ++ m :: Lx.leanTo x s k m first j).length + 11 ^ k ≤ 100000000 := by
            have h1 := Lx.leanTo_len x s hn10 k m first j
            have h2 : (j - first) * 11 ^ k ≤ 9 * 11 ^ k := Nat.mul_le_mul_right _ (by omega)
            have h3 := HCAP.out
            rw [HK.out, Nat.pow_succ] at h3
            have h4 : 0 < 11 ^ k := Nat.pow_pos (by omega)
            rw [List.length_append, List.length_cons]
            omega
          have hcall := HIH.out ⟨m.entry, m.ending, m.clitics ++ [(j : Int)], m.long + g.text.size⟩ (j + 1) (ms ++ m :: Lx.leanTo x s k m first j) _ _ (.slice Av nv cv) _ base (by have := HK.out; simp; omega) (by omega) HPS.out
            (HR.out.below (HBEL.out.trans (hb26.mono (by omega)))) hrm (HOM.out.kept hb26) (by rw [hs6]; have := HB25.out.size; omega) hcapk
          rw [show ((j + 1 : Nat) : Int) = (j : Int) + 1 from rfl] at hcall
          have HCALL := Lib.hid hcall
          have HB26 := Lib.hid hb26
          have HVLT := Lib.hid hvlt
          clear hcall hb26 hvlt hown6 hx6 hrm hcapk hov
          refine HCALL.out.mono ?_
          rintro e7 w7 ⟨v7, rfl, hom7, hg7, hat7⟩
          obtain ⟨cs7, ho7, _⟩ := id hom7
          obtain ⟨A7, n7, c7, rfl⟩ : ∃ A n c, v7 = Value.slice A n c := (by obtain ⟨A, c, e⟩ := own_form ho7; exact ⟨A, _, c, e⟩)
          clear ho7
          have hsz26 := HB26.out.size
          have hne7 : ∀ b, b < w2.heap.size → (Value.slice Av nv cv).ownBlock ≠ some b → w7.heap[b]? = w2.heap[b]? := fun b hb hne =>
            (hg7.block b (by omega) (fun e => hne e.symm)).trans (HB26.out.block b hb)
          have hvne : ∀ b, w.heap.size ≤ b → b < w.heap.size + 3 → (Value.slice Av nv cv).ownBlock ≠ some b := by
            intro b hb1 hb2 e
            rcases HAT.out with h | ⟨q, h, hq⟩
            · rw [h] at e
              have := (HOWN.out.lt b e).2
              omega
            · rw [h] at e
              cases e
              omega
          have HX7 := Lib.hid ((hne7 w.heap.size hwrlt (hvne _ (by omega) (by omega))).trans HX.out)
          have HM7 := Lib.hid ((hne7 (w.heap.size + 1) hwrlt' (hvne _ (by omega) (by omega))).trans HMM.out)
          have HOM7 : Hid (OwnM w7 base _ (ms ++ m :: Lx.leanTo x s k m first (j + 1))) := Lib.hid (by rw [HN.out]; simpa using hom7)
          have HG7 : Hid (w.grownBy w7 (Value.slice Ao ms.length co).ownBlock) := Lib.hid (grown_after (grown_after HGW.out (grown_of_below HB26.out) (.inl rfl)) hg7 (HAT.out.imp id (fun ⟨q, e, h⟩ => ⟨q, e, by omega⟩)))
          have hz7 : w.heap.size + 3 ≤ w7.heap.size := by have := hg7.size; omega
          have HAT7 : Hid ((Value.slice A7 n7 c7).ownBlock = (Value.slice Ao ms.length co).ownBlock ∨
              ∃ q, (Value.slice A7 n7 c7).ownBlock = some q ∧ w.heap.size + 3 ≤ q) := Lib.hid (by
            rcases hat7 with h | ⟨q, h, hq⟩
            · rw [h]; exact HAT.out
            · exact .inr ⟨q, h, by omega⟩)
          have HXM7 := Lib.hid (HXM.out.keep (w' := w7) (ok' := fun b => b < w7.heap.size ∧ (Value.slice A7 n7 c7).ownBlock ≠ some b ∧ base ≤ b) fun b ⟨hb, hne, hbs⟩ => ⟨⟨by have := hg7.size; omega, by
            rcases hat7 with h | ⟨q, h, hq⟩
            · rw [h]; exact hne
            · rw [h]; intro e; cases e; omega, hbs⟩, hne7 b hb hne⟩)
          clear hom7 hg7 hat7 hne7 hvne
          go_wp2_with fail
          go_roundg (x.clitics.length - (j + 1))
          case measure => omega
          case rel => exact ⟨j + 1, by omega, by omega, rfl, by go_num, ⟨_, _, _, rfl⟩, HOM7.out, HG7.out, hz7, HAT7.out, HX7.out, HM7.out, HXM7.out⟩
      · have hjn : j = x.clitics.length := by omega
        have HF : Hid (Lx.leanF x s fuel m first = m :: Lx.leanTo x s k m first j) := Lib.hid (by rw [HLF.out, hjn])
        clear hjn
        go_wp2_with fail
        go_ret
        exact ⟨_, rfl, by rw [HF.out]; exact HOM.out, HGW.out, HAT.out.imp id (fun ⟨g, e, h⟩ => ⟨g, e, by omega⟩)⟩

theorem lean_any (x : Lx.Lexicon) (s : ByteArray) (hchk : Lx.checkV x = 0) (hs : s.size ≤ 1000) : ∀ fuel, LeanSays x s fuel
  | 0 => lean_step x s hchk hs 0 (fun k h => by cases h)
  | k + 1 => lean_step x s hchk hs (k + 1) (fun k' h => by cases h; exact lean_any x s hchk hs k)
end Go.Proofs.YtpmnpnlfgfleeaaGreatDoor
