/- lexicon.matches: all forms whose sounds begin a line. -/
import Derived.Test.YtpmnpnlfgfleeaaGreatDoorMgLean
import Derived.Test.YtpmnpnlfgfleeaaGreatDoorMgRead
import Derived.Deep.Onto
namespace Go.Proofs.YtpmnpnlfgfleeaaGreatDoor
open Go.RowKit

theorem OwnM.mono {w : World} {base base' : Nat} {v : Value} {ms : List Lx.Match} (h : OwnM w base v ms) (hb : base' ≤ base) : OwnM w base' v ms := by
  obtain ⟨cells, h1, h2⟩ := h
  exact ⟨cells, h1.mono hb, mrows_keep (fun b hk => ⟨⟨hk.1, hk.2.1, Nat.le_trans hb hk.2.2⟩, rfl⟩) _ _ h2⟩
/-- a block of another type is not the row -/
theorem OwnM.ne {w : World} {base : Nat} {v : Value} {ms : List Lx.Match} (h : OwnM w base v ms) {b : Nat} {cs : Array Value} {t : TypeId} {fr : Nat × Nat} (hb : w.heap[b]? = some (.cells cs t fr)) (ht : t ≠ 87) : some b ≠ v.ownBlock := by
  obtain ⟨cells, ⟨_, h2⟩, _⟩ := h
  rcases h2 with ⟨rfl, h0⟩ | ⟨g, cap, cur, rfl, hg, hh, hle, hm, hs, ht'⟩
  · simp [Value.ownBlock]
  · intro e
    simp [Value.ownBlock] at e
    subst e
    rw [hb] at hh
    cases hh
    exact ht rfl
theorem OwnM.lt {w : World} {base : Nat} {v : Value} {ms : List Lx.Match} (h : OwnM w base v ms) : ∀ g, v.ownBlock = some g → base ≤ g ∧ g < w.heap.size := by
  obtain ⟨cells, h1, _⟩ := h
  exact fun g hg => h1.lt g hg
theorem OwnM.form {w : World} {base : Nat} {v : Value} {ms : List Lx.Match} (h : OwnM w base v ms) : ∃ A n c, v = .slice A n c := by
  obtain ⟨cells, h1, _⟩ := h
  obtain ⟨A, c, e⟩ := own_form h1
  exact ⟨A, _, c, e⟩
theorem pre_eq0 (s : ByteArray) (p : ByteArray) : Lib.hasPrefix s.data.toList p.data.toList = Lx.pre s 0 p := rfl
theorem rdm_new {w : World} {base : Nat} {g : Option Nat} (e n : Int) (k : Nat) : RdM w base g (.agg #[.int .i64 e, .int .i64 n, .slice none 0 0, .int .i64 k]) ⟨e, n, [], k⟩ :=
  ⟨none, 0, rfl, none, 0, rfl, by simp, by simp, fun h => absurd h (by simp)⟩
theorem rdf_new {w : World} {B : Nat} (e n : Int) : RdF w B (.agg #[.int .i64 e, .int .i64 n, .slice none 0 0]) ⟨e, n, []⟩ :=
  ⟨⟨_, rfl, none, 0, rfl, by simp, by simp, fun h => absurd h (by simp)⟩⟩

set_option maxRecDepth 100000 in
set_option maxHeartbeats 4000000 in
theorem matches_any (x : Lx.Lexicon) (s : ByteArray) (hchk : Lx.checkV x = 0) (hs : s.size ≤ 1000) (vx : Value) (w : World) (hr : RdL w w.heap.size vx x) :
    Calls Tryz.prog 78 #[vx, .string s] w (fun e w' => ∃ v, e = .returned v ∧ OwnM w' w.heap.size v (Lx.matchesV x s) ∧ Below w.heap.size w w') := by
  have HR := Lib.hid hr
  have HCHK := Lib.hid hchk
  obtain ⟨⟨v0, v1, v2, rfl, ⟨A0, c0, rfl, -, -, hc0⟩, ⟨A1, c1, rfl, -, -, hc1⟩, ⟨A2, c2, rfl, -⟩⟩, -, -, -⟩ := hr
  obtain ⟨htm, hok0, hok1, hok2⟩ := Lx.check_parts hchk
  obtain ⟨ht0, ht1, ht2⟩ := Lx.tooMany_no htm
  have hs0 : s.size ≤ 9223372036854775807 := by omega
  have HC0 := Lib.hid hc0
  have HC1 := Lib.hid hc1
  have HOK0 := Lib.hid hok0
  have HOK1 := Lib.hid hok1
  clear hc0 hc1 hchk htm hok0 hok1 hok2
  have cx : ∀ (W : World), W.heap[w.heap.size]? = some (.cells #[.slice A0 x.entries.length c0, .slice A1 x.endings.length c1, .slice A2 x.clitics.length c2] 26 (0, 0)) →
      W.cell? ⟨w.heap.size, 0, none⟩ = some (.slice A0 x.entries.length c0) ∧ W.cell? ⟨w.heap.size, 1, none⟩ = some (.slice A1 x.endings.length c1) ∧ W.cell? ⟨w.heap.size, 2, none⟩ = some (.slice A2 x.clitics.length c2) :=
    fun W h => ⟨by simp [World.cell?, h], by simp [World.cell?, h], by simp [World.cell?, h]⟩
  have CX := Lib.hid cx
  clear cx
  go_enter Tryz.func78, Tryz.ntmps78
  go_wp2_with fail
  go_loopg [5, 14] x.entries.length (fun g v i wr => ∃ j : Nat, j ≤ x.entries.length ∧ g = x.entries.length - j ∧ i = .int .i64 j ∧ (∃ A n c, v = .slice A n c) ∧ OwnM wr (w.heap.size + 1) v (Lx.matchesN x s j) ∧
    Below w.heap.size w wr ∧ w.heap.size + 1 ≤ wr.heap.size ∧
    wr.heap[w.heap.size]? = some (.cells #[.slice A0 x.entries.length c0, .slice A1 x.endings.length c1, .slice A2 x.clitics.length c2] 26 (0, 0)))
  case atStart => exact ⟨0, Nat.zero_le _, rfl, rfl, ⟨_, _, _, rfl⟩, OwnM.nil _ _, (Below.refl _ _).alloc (Nat.le_refl _) _, by simp, heap_alloc_new _ _⟩
  case round =>
    obtain ⟨j, hj, rfl, rfl, ⟨Av, nv, cv, rfl⟩, hom, hbel, hsz, hx⟩ := hrel
    obtain ⟨x0, x1, x2⟩ := CX.out wr hx
    have HX := Lib.hid hx
    have HOM := Lib.hid hom
    have HBEL := Lib.hid hbel
    have hsz1 : w.heap.size < wr.heap.size := by omega
    have hsz2 : w.heap.size < wr.heap.size + 1 := by omega
    clear hom hbel hx
    by_cases hlt : j < x.entries.length
    · obtain ⟨b, off, rfl, hb, hcell⟩ := HC0.out (by omega)
      obtain ⟨e, he⟩ : ∃ e, x.entries[j]? = some e := ⟨_, List.getElem?_eq_getElem hlt⟩
      have f0 : wr.cell? ⟨b, off + j * 4, none⟩ = some (.string e.root) := (HBEL.out.cell hb).trans (hcell j e he 0 _ rfl)
      have f1 : wr.cell? ⟨b, off + j * 4 + 1, none⟩ = some (.int .i64 e.kind) := (HBEL.out.cell hb).trans (hcell j e he 1 _ rfl)
      have f2 : wr.cell? ⟨b, off + j * 4 + 2, none⟩ = some (.string e.cls) := (HBEL.out.cell hb).trans (hcell j e he 2 _ rfl)
      have f3 : wr.cell? ⟨b, off + j * 4 + 3, none⟩ = some (.int .i64 e.weight) := (HBEL.out.cell hb).trans (hcell j e he 3 _ rfl)
      have hr8 := (Lx.ok_entry (Lx.good_at HOK0.out he)).2.1
      have HE := Lib.hid he
      have hjI : (0 : Int) ≤ (j : Int) := by omega
      have hjJ : (j : Int) < (x.entries.length : Int) := by omega
      clear hcell he
      go_wp2_with fail
      cases hp : Lx.pre s 0 e.root
      · have HN : Hid (Lx.matchesN x s (j + 1) = Lx.matchesN x s j) := Lib.hid (by rw [Lx.matchesN_succ, Lx.matchesE_no HE.out hp, List.append_nil])
        have HP := Lib.hid hp
        clear hp
        refine (Tryz.strings_HasPrefix _ _ _).mono ?_
        rw [pre_eq0, HP.out]
        rintro e1 w2 ⟨rfl, rfl⟩
        go_wp2_with fail
        go_roundg (x.entries.length - (j + 1))
        case measure => omega
        case rel =>
          have hbb : Below wr.heap.size wr (wr.alloc (.cells #[.string e.root, .int .i64 e.kind, .string e.cls, .int .i64 e.weight] 57)) := (Below.refl _ _).alloc (Nat.le_refl _) _
          exact ⟨j + 1, by omega, rfl, by go_num, ⟨_, _, _, rfl⟩, by rw [HN.out]; exact HOM.out.kept hbb, HBEL.out.trans (hbb.mono (by omega)), by have := hbb.size; omega, (hbb.block _ (by omega)).trans HX.out⟩
      · have HP := Lib.hid hp
        have HT0 : Hid (Lx.matchesN x s j ++ Lx.matchesTo x s j e 0 = Lx.matchesN x s j) := Lib.hid (by rw [Lx.matchesTo_zero, List.append_nil])
        have HTN : Hid (Lx.matchesN x s (j + 1) = Lx.matchesN x s j ++ Lx.matchesTo x s j e (x.endings.length + 1)) := Lib.hid (by rw [Lx.matchesN_succ, Lx.matchesE_yes HE.out hp])
        clear hp
        refine (Tryz.strings_HasPrefix _ _ _).mono ?_
        rw [pre_eq0, HP.out]
        rintro e1 w2 ⟨rfl, rfl⟩
        go_wp2_with fail
        have hbb : Below wr.heap.size wr (wr.alloc (.cells #[.string e.root, .int .i64 e.kind, .string e.cls, .int .i64 e.weight] 57)) := (Below.refl _ _).alloc (Nat.le_refl _) _
        go_loopg [5, 8] (x.endings.length + 1) (fun g v i wi => ∃ p : Int, -1 ≤ p ∧ p ≤ x.endings.length ∧ g = (x.endings.length - p).toNat ∧ i = .int .i64 p ∧ (∃ A n c, v = .slice A n c) ∧
          OwnM wi (w.heap.size + 1) v (Lx.matchesN x s j ++ Lx.matchesTo x s j e (p + 1).toNat) ∧ Below w.heap.size w wi ∧ wr.heap.size + 1 ≤ wi.heap.size ∧
          wi.heap[w.heap.size]? = some (.cells #[.slice (some ⟨b, off, none⟩) x.entries.length c0, .slice A1 x.endings.length c1, .slice A2 x.clitics.length c2] 26 (0, 0)) ∧
          wi.heap[wr.heap.size]? = some (.cells #[.string e.root, .int .i64 e.kind, .string e.cls, .int .i64 e.weight] 57 (0, 0)))
        case atStart => exact ⟨-1, by omega, by omega, by omega, rfl, ⟨_, _, _, rfl⟩, by rw [show ((-1 : Int) + 1).toNat = 0 by decide, HT0.out]; exact HOM.out.kept hbb, HBEL.out.trans (hbb.mono (by omega)), by simp, (hbb.block _ (by omega)).trans HX.out, heap_alloc_new _ _⟩
        case round =>
          rename World => wi
          obtain ⟨p, hp0, hp1, rfl, rfl, ⟨Aq, nq, cq, rfl⟩, hom, hbel, hsz, hx, hen⟩ := hrel
          clear x0 x1 x2 f0 f1 f2 f3 hsz1 hsz2
          obtain ⟨x0, x1, x2⟩ := CX.out wi hx
          have y1 : wi.cell? ⟨wr.heap.size, 1, none⟩ = some (.int .i64 e.kind) := by simp [World.cell?, hen]
          have HXI := Lib.hid hx
          have HEN := Lib.hid hen
          have HOMI := Lib.hid hom
          have HBELI := Lib.hid hbel
          have hsz1 : w.heap.size < wi.heap.size := by omega
          have hsz2 : w.heap.size < wi.heap.size + 1 := by omega
          have hsz3 : wr.heap.size < wi.heap.size := by omega
          clear hom hbel hx hen
          by_cases hp2 : p < (x.endings.length : Int)
          · go_upto_region 9 with fail
            go_cut [43] (fun t wc => t = .bool (Lx.skipP x e p) ∧ ∃ n, wc = wi.drewN n)
            case first =>
              by_cases hq0 : 0 ≤ p
              · obtain ⟨b1, off1, rfl, hb1, hcell1⟩ := HC1.out (by omega)
                have hg : decide ((0 : Int) ≤ p) = true := by simp [hq0]
                obtain ⟨g, he1⟩ : ∃ g, x.endings[p.toNat]? = some g := ⟨_, List.getElem?_eq_getElem (by omega)⟩
                have g0 : wi.cell? ⟨b1, off1 + p.toNat * 4, none⟩ = some (.int .i64 g.kind) := (HBELI.out.cell hb1).trans (hcell1 p.toNat g he1 0 _ rfl)
                have HS : Hid (Lx.skipP x e p = (!(g.kind == e.kind))) := Lib.hid (by
                  simp only [Lx.skipP, he1, hq0, decide_true, Bool.true_and]
                  by_cases hk : g.kind = e.kind <;> simp [hk])
                clear hcell1 he1
                go_quiet (fail)
                all_goals go_wp2_with fail
                all_goals
                  go_meet
                  go_light
                  refine ⟨?_, _, rfl⟩
                  rw [HS.out]
                  rfl
              · have hg : decide ((0 : Int) ≤ p) = false := by simp; omega
                have HS : Hid (Lx.skipP x e p = false) := Lib.hid (by simp [Lx.skipP, hq0])
                clear hq0
                go_quiet (fail)
                all_goals go_wp2_with fail
                all_goals
                  go_meet
                  go_light
                  refine ⟨?_, _, rfl⟩
                  rw [HS.out]
            case rest =>
              rename World => wk
              obtain ⟨rfl, nd, hwk⟩ := hcut
              have HWK : Hid (Below wi.heap.size wi wk) := Lib.hid (by rw [hwk]; exact below_drewN (Below.refl _ _) _)
              have HBK := Lib.hid (HBELI.out.trans (HWK.out.mono (by omega)))
              have hsk1 : wi.heap.size = wk.heap.size := by rw [hwk]; rfl
              have HOMK := Lib.hid (HOMI.out.kept HWK.out)
              have HXK := Lib.hid ((HWK.out.block _ hsz1).trans HXI.out)
              have HENK := Lib.hid ((HWK.out.block _ hsz3).trans HEN.out)
              clear hwk HOMI HXI HEN HBELI HWK x0 x1 x2 y1
              obtain ⟨x0, x1, x2⟩ := CX.out wk HXK.out
              have hsz4 : w.heap.size < wk.heap.size := by omega
              have hsz5 : w.heap.size < wk.heap.size + 1 := by omega
              cases hsk : Lx.skipP x e p
              · have HSK := Lib.hid hsk
                clear hsk
                go_wp2_with fail
                refine (stem_any _ (.agg #[.int .i64 (j : Int), .int .i64 p, .slice none 0 0]) x ⟨(j : Int), p, []⟩ _ ((HR.out.below (HBK.out.trans ((Below.refl _ _).alloc (Nat.le_refl _) _ |>.mono (by omega)))).more (by simp; omega)) (rdf_new _ _) HCHK.out ⟨⟨by show (0 : Int) ≤ (j : Int); omega, hjJ⟩, by show p < 0 ∨ (0 ≤ p ∧ p < (x.endings.length : Int)); omega⟩).mono ?_
                rintro e3 w3 ⟨rfl, hb3⟩
                have hs3 : wk.heap.size + 1 ≤ w3.heap.size := by have := hb3.size; simp at this; omega
                have HF3 : Hid (w3.heap[wk.heap.size]? = some (.cells #[.int .i64 (j : Int), .int .i64 p, .slice none 0 0] 29 (0, 0))) := Lib.hid ((hb3.block _ (by simp)).trans (heap_alloc_new _ _))
                have HB3 : Hid (Below wk.heap.size wk w3) := Lib.hid (((Below.refl _ _).alloc (Nat.le_refl _) _).trans (hb3.mono (by simp)))
                clear hb3
                generalize hst : Lx.stemV x ⟨(j : Int), p, []⟩ = st
                have HST := Lib.hid hst
                clear hst
                have x0' : w3.cell? ⟨w.heap.size, 0, none⟩ = some (.slice (some ⟨b, off, none⟩) x.entries.length c0) := (HB3.out.cell (p := ⟨w.heap.size, 0, none⟩) hsz4).trans x0
                have x1' : w3.cell? ⟨w.heap.size, 1, none⟩ = some (.slice A1 x.endings.length c1) := (HB3.out.cell (p := ⟨w.heap.size, 1, none⟩) hsz4).trans x1
                have x2' : w3.cell? ⟨w.heap.size, 2, none⟩ = some (.slice A2 x.clitics.length c2) := (HB3.out.cell (p := ⟨w.heap.size, 2, none⟩) hsz4).trans x2
                have z0 : w3.cell? ⟨wk.heap.size, 0, none⟩ = some (.int .i64 (j : Int)) := by simp [World.cell?, HF3.out]
                have z1 : w3.cell? ⟨wk.heap.size, 1, none⟩ = some (.int .i64 p) := by simp [World.cell?, HF3.out]
                have z2 : w3.cell? ⟨wk.heap.size, 2, none⟩ = some (.slice none 0 0) := by simp [World.cell?, HF3.out]
                clear x0 x1 x2
                go_wp2_with fail
                cases hpp : Lx.pre s 0 st
                · have HN : Hid (Lx.matchesTo x s j e (p + 1 + 1).toNat = Lx.matchesTo x s j e (p + 1).toNat) := Lib.hid (by
                    rw [Lx.matchesTo_next hp0, Lx.matchesQ_no hp0 HSK.out (by rw [HST.out]; exact hpp), List.append_nil])
                  have HPP := Lib.hid hpp
                  clear hpp
                  refine (Tryz.strings_HasPrefix _ _ _).mono ?_
                  rw [pre_eq0, HPP.out]
                  rintro e1 w2 ⟨rfl, rfl⟩
                  go_wp2_with fail
                  go_roundg ((x.endings.length - (p + 1)).toNat)
                  case measure => omega
                  case rel => exact ⟨p + 1, by omega, by omega, rfl, rfl, ⟨_, _, _, rfl⟩, by rw [HN.out]; exact HOMK.out.kept HB3.out, HBK.out.trans (HB3.out.mono (by omega)), by omega, (HB3.out.block _ hsz4).trans HXK.out, (HB3.out.block _ (by omega)).trans HENK.out⟩
                · have HN : Hid (Lx.matchesTo x s j e (p + 1 + 1).toNat = Lx.matchesTo x s j e (p + 1).toNat ++ Lx.leanF x s 3 ⟨(j : Int), p, [], st.size⟩ 0) := Lib.hid (by
                    rw [Lx.matchesTo_next hp0, Lx.matchesQ_yes hp0 HSK.out (by rw [HST.out]; exact hpp), HST.out])
                  have HSZ : Hid (st.size ≤ s.size) := Lib.hid (by have := Lx.pre_size hpp; omega)
                  have hst1 : st.size ≤ 9223372036854775807 := by have := HSZ.out; omega
                  have HCAP : Hid ((Lx.matchesN x s j ++ Lx.matchesTo x s j e (p + 1).toNat).length + 11 ^ 3 ≤ 100000000) := Lib.hid (by
                    have h1 := Lx.matchesN_len x s ht2 ht1 j
                    have h2 := Lx.matchesTo_len x s ht2 j e (p + 1).toNat
                    rw [List.length_append]
                    omega)
                  have HPP := Lib.hid hpp
                  clear hpp
                  refine (Tryz.strings_HasPrefix _ _ _).mono ?_
                  rw [pre_eq0, HPP.out]
                  rintro e1 w2 ⟨rfl, rfl⟩
                  go_wp2_with fail
                  refine (lean_any x s HCHK.out hs 3 ⟨(j : Int), p, [], st.size⟩ 0 (Lx.matchesN x s j ++ Lx.matchesTo x s j e (p + 1).toNat) _ _ (.slice Aq nq cq) _ (w.heap.size + 1) rfl (Nat.zero_le _) HSZ.out ((HR.out.below (HBK.out.trans (HB3.out.mono (by omega)))).more (by omega)) (rdm_new _ _ _) (HOMK.out.kept HB3.out) (by omega) HCAP.out).mono ?_
                  rintro e7 w7 ⟨v7, rfl, hom7, hg7, hat7⟩
                  obtain ⟨A7, n7, c7, rfl⟩ := hom7.form
                  have hs7 : w2.heap.size ≤ w7.heap.size := hg7.size
                  have HX7 : Hid (w7.heap[w.heap.size]? = some (.cells #[.slice (some ⟨b, off, none⟩) x.entries.length c0, .slice A1 x.endings.length c1, .slice A2 x.clitics.length c2] 26 (0, 0))) := Lib.hid (by
                    rw [hg7.block _ (by omega) (fun q => by have := (HOMK.out.lt _ q.symm).1; omega)]
                    exact (HB3.out.block _ hsz4).trans HXK.out)
                  have HEN7 : Hid (w7.heap[wr.heap.size]? = some (.cells #[.string e.root, .int .i64 e.kind, .string e.cls, .int .i64 e.weight] 57 (0, 0))) := Lib.hid (by
                    rw [hg7.block _ (by omega) (HOMK.out.ne HENK.out (by decide))]
                    exact (HB3.out.block _ (by omega)).trans HENK.out)
                  have HB7 : Hid (Below w.heap.size w w7) := Lib.hid ((HBK.out.trans (HB3.out.mono (by omega))).grown hg7 (by omega) (fun k hk => by have := (HOMK.out.lt k hk).1; omega))
                  have HOM7 : Hid (OwnM w7 (w.heap.size + 1) (.slice A7 n7 c7) (Lx.matchesN x s j ++ Lx.matchesTo x s j e (p + 1 + 1).toNat)) := Lib.hid (by
                    rw [HN.out, ← List.append_assoc]; exact hom7)
                  clear hom7 hg7 hat7
                  go_wp2_with fail
                  go_roundg ((x.endings.length - (p + 1)).toNat)
                  case measure => omega
                  case rel => exact ⟨p + 1, by omega, by omega, rfl, rfl, ⟨_, _, _, rfl⟩, HOM7.out, HB7.out, by omega, HX7.out, HEN7.out⟩
              · have HN : Hid (Lx.matchesTo x s j e (p + 1 + 1).toNat = Lx.matchesTo x s j e (p + 1).toNat) := Lib.hid (by
                  rw [Lx.matchesTo_next hp0, Lx.matchesQ_skip hp0 hsk, List.append_nil])
                clear hsk
                go_wp2_with fail
                go_roundg ((x.endings.length - (p + 1)).toNat)
                case measure => omega
                case rel => exact ⟨p + 1, by omega, by omega, rfl, rfl, ⟨_, _, _, rfl⟩, by rw [HN.out]; exact HOMK.out, HBK.out, by omega, HXK.out, HENK.out⟩
          · have hqn : p = x.endings.length := by omega
            have HT : Hid (OwnM wi (w.heap.size + 1) (.slice Aq nq cq) (Lx.matchesN x s (j + 1))) := Lib.hid (by rw [HTN.out, show x.endings.length + 1 = (p + 1).toNat by omega]; exact HOMI.out)
            clear hqn
            go_wp2_with fail
            go_roundg (x.entries.length - (j + 1))
            case measure => omega
            case rel => exact ⟨j + 1, by omega, rfl, by go_num, ⟨_, _, _, rfl⟩, HT.out, HBELI.out, by omega, HXI.out⟩
    · have hjn : j = x.entries.length := by omega
      have HF : Hid (OwnM wr (w.heap.size + 1) (.slice Av nv cv) (Lx.matchesV x s)) := Lib.hid (by rw [Lx.matchesV, ← hjn]; exact HOM.out)
      clear hjn
      go_wp2_with fail
      go_ret
      exact ⟨_, rfl, HF.out.mono (by omega), HBEL.out⟩
end Go.Proofs.YtpmnpnlfgfleeaaGreatDoor
