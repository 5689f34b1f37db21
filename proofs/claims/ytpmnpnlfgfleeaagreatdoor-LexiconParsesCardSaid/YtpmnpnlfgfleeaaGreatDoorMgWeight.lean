/- Matches are forms of the lexicon: plain notions. lexicon.weight: the weight of a valid form. -/
import Derived.Test.YtpmnpnlfgfleeaaGreatDoorMgCutsPlain
import Derived.Test.YtpmnpnlfgfleeaaGreatDoorMgClone
namespace Lx
structure MFit (x : Lexicon) (n : Nat) (m : Match) : Prop where
  form : FitsC x m.form
  pos : 1 ≤ m.long
  le : m.long ≤ n
theorem leanF_fits {x : Lexicon} {s : ByteArray} : ∀ (fuel : Nat) (m : Match) (first : Nat), m.clitics.length + fuel ≤ 3 → MFit x s.size m → ∀ m' ∈ leanF x s fuel m first, MFit x s.size m'
  | 0, m, first, _, h, m', hm => by simp [leanF] at hm; subst hm; exact h
  | fuel + 1, m, first, hf, h, m', hm => by
    unfold leanF at hm
    rw [List.mem_cons] at hm
    rcases hm with rfl | hm
    · exact h
    · rw [if_neg (by omega), List.mem_flatMap] at hm
      obtain ⟨c, hc, hm⟩ := hm
      split at hm
      · rename_i g hg
        split at hm
        · rename_i hp
          have hps := pre_size hp h.le
          refine leanF_fits fuel ⟨m.entry, m.ending, m.clitics ++ [(c : Int)], m.long + g.text.size⟩ (c + 1) (by simp; omega) ⟨⟨⟨h.form.ent, h.form.fin⟩, by simp [Match.form]; omega, fun k d hd => ?_⟩, ?_, hps⟩ m' hm
          · simp only [Match.form] at hd
            by_cases hk : k < m.clitics.length
            · rw [List.getElem?_append_left hk] at hd
              exact h.form.cl k d hd
            · rw [List.getElem?_append_right (by omega)] at hd
              have hcl := (List.getElem?_eq_some_iff.1 hg).1
              by_cases hk0 : k - m.clitics.length = 0
              · rw [hk0] at hd; simp at hd; subst hd; omega
              · rw [List.getElem?_eq_none (by simp; omega)] at hd; cases hd
          · have := h.pos; show 1 ≤ m.long + g.text.size; omega
        · simp at hm
      · simp at hm
theorem matchesV_fits {x : Lexicon} {s : ByteArray} (hc : checkV x = 0) : ∀ m ∈ matchesV x s, MFit x s.size m := by
  obtain ⟨_, h1, h2, _⟩ := check_parts hc
  intro m hm
  unfold matchesV matchesN at hm
  rw [List.mem_flatMap] at hm
  obtain ⟨i, hi, hm⟩ := hm
  rw [List.mem_range] at hi
  unfold matchesE at hm
  split at hm
  · rename_i e he
    split at hm
    · unfold matchesTo at hm
      rw [List.mem_flatMap] at hm
      obtain ⟨q, hq, hm⟩ := hm
      rw [List.mem_range] at hq
      unfold matchesQ at hm
      split at hm
      · simp at hm
      · split at hm
        · rename_i hp
          have hps := pre_size hp (Nat.zero_le _)
          refine leanF_fits 3 ⟨(i : Int), (q : Int) - 1, [], (stemV x ⟨(i : Int), (q : Int) - 1, []⟩).size⟩ 0 (by simp) ⟨⟨⟨⟨by simp [Match.form], by simp only [Match.form]; omega⟩, by simp only [Match.form]; omega⟩, by simp [Match.form], by simp [Match.form]⟩, ?_, by simpa using hps⟩ m hm
          have he1 := (ok_entry (good_at h1 he)).1
          show 1 ≤ (stemV x ⟨(i : Int), (q : Int) - 1, []⟩).size
          unfold stemV
          simp only [Int.toNat_natCast, he]
          split
          · exact he1
          · split
            · rw [ByteArray.size_append]; omega
            · exact he1
        · simp at hm
    · simp at hm
  · simp at hm
end Lx
namespace Go.Proofs.YtpmnpnlfgfleeaaGreatDoor
open Go.RowKit

set_option maxRecDepth 100000 in
set_option maxHeartbeats 4000000 in
theorem weight_any (v vf : Value) (x : Lx.Lexicon) (f : Lx.Form) (w : World) (hr : RdL w w.heap.size v x) (hf : RdF w w.heap.size vf f) (hchk : Lx.checkV x = 0) (hfit : Lx.FitsC x f) :
    Calls Tryz.prog 31 #[v, vf] w (RetIB (Lx.heavyV x f) w) := by
  obtain ⟨⟨v0, v1, v2, rfl, ⟨A0, c0, rfl, hl0, hm0, hc0⟩, ⟨A1, c1, rfl, hl1, hm1, hc1⟩, ⟨A2, c2, rfl, hl2, hm2, hc2⟩⟩, -, -, -⟩ := hr
  obtain ⟨⟨sf, rfl, ⟨A3, c3, rfl, hl3, hm3, hc3⟩⟩⟩ := hf
  have hn0 : x.entries.length ≤ 9223372036854775807 := by omega
  have hn1 : x.endings.length ≤ 9223372036854775807 := by omega
  have hn2 : x.clitics.length ≤ 9223372036854775807 := by omega
  have hn3 : f.clitics.length ≤ 9223372036854775807 := by omega
  clear hl0 hl1 hl2 hl3 hm0 hm1 hm2 hm3
  have hpar := Lx.check_parts hchk
  obtain ⟨hlo, hhi⟩ := hfit.ent
  obtain ⟨b, off, rfl, hb, hcell⟩ := hc0 (by omega)
  obtain ⟨e, he⟩ : ∃ e, x.entries[f.entry.toNat]? = some e := ⟨_, List.getElem?_eq_getElem (by omega)⟩
  obtain ⟨_, _, _, _, _, hw0, hw1, _⟩ := Lx.ok_entry (Lx.good_at hpar.2.1 he)
  have f3 : w.cell? ⟨b, off + f.entry.toNat * 4 + 3, none⟩ = some (.int .i64 e.weight) := hcell _ e he 3 _ rfl
  have HBX : Hid (∀ A B : Obj, Below w.heap.size w ((w.alloc A).alloc B)) := Lib.hid fun A B => ((Below.refl _ _).alloc (Nat.le_refl _) _).alloc (by simp) _
  have HV : Hid (Lx.heavyV x f = Lx.weighE x f e.weight + Lx.weighCs x f.clitics) := Lib.hid (by simp [Lx.heavyV, he])
  have HPAR := Lib.hid hpar
  have HFIT := Lib.hid hfit
  have HC1 := Lib.hid hc1
  have HC2 := Lib.hid hc2
  have HC3 := Lib.hid hc3
  have hfin := hfit.fin
  clear hcell hchk he hpar hfit hc1 hc2 hc3
  go_enter Tryz.func31, Tryz.ntmps31
  go_upto_if 17 with fail
  go_cut [5] (fun t wc => t = .int .i64 (Lx.weighE x f e.weight) ∧ wc = (w.alloc (.cells #[.slice (some ⟨b, off, none⟩) x.entries.length c0, .slice A1 x.endings.length c1, .slice A2 x.clitics.length c2] 26)).alloc (.cells #[.int .i64 f.entry, .int .i64 f.ending, .slice A3 f.clitics.length c3] 29))
  case first =>
    by_cases hneg : f.ending < 0
    · go_wp2_with fail
      go_meet
      go_light
      refine ⟨?_, rfl⟩
      rw [Lx.weighE, if_pos hneg]
    · have hge : 0 ≤ f.ending := by omega
      have hlt1 : f.ending < (x.endings.length : Int) := by omega
      obtain ⟨b1, off1, rfl, hb1, hcell1⟩ := HC1.out (by omega)
      obtain ⟨g, hg⟩ : ∃ g, x.endings[f.ending.toNat]? = some g := ⟨_, List.getElem?_eq_getElem (by omega)⟩
      have fg3 : w.cell? ⟨b1, off1 + f.ending.toNat * 4 + 3, none⟩ = some (.int .i64 g.weight) := hcell1 _ g hg 3 _ rfl
      obtain ⟨_, _, _, hg0, hg1, _⟩ := Lx.ok_ending (Lx.good_at HPAR.out.2.2.1 hg)
      have HG := Lib.hid hg
      clear hg hcell1 hfin
      go_wp2_with fail
      go_meet
      go_light
      refine ⟨?_, rfl⟩
      rw [Lx.weighE, if_neg (by omega), HG.out]
  case rest =>
    obtain ⟨rfl, rfl⟩ := hcut
    obtain ⟨hn0', hn1'⟩ := Lx.weighE_le (f := f) (n := e.weight) HPAR.out.2.2.1
    generalize hq0 : Lx.weighE x f e.weight = n0 at *
    clear hq0 hfin
    have hfew := HFIT.out.few
    go_wp2_with fail
    go_loopg [5, 30] f.clitics.length (fun g t i wr => ∃ (k : Nat) (n : Int), k ≤ f.clitics.length ∧ g = f.clitics.length - k ∧ i = .int .i64 k ∧ t = .int .i64 n ∧ 0 ≤ n ∧ n ≤ 2000 + 1000 * k ∧
      wr = (w.alloc (.cells #[.slice (some ⟨b, off, none⟩) x.entries.length c0, .slice A1 x.endings.length c1, .slice A2 x.clitics.length c2] 26)).alloc (.cells #[.int .i64 f.entry, .int .i64 f.ending, .slice A3 f.clitics.length c3] 29) ∧
      Lx.heavyV x f = n + Lx.weighCs x (f.clitics.drop k))
    case atStart => exact ⟨0, n0, Nat.zero_le _, rfl, rfl, rfl, by omega, by omega, rfl, by simpa using HV.out⟩
    case round =>
      obtain ⟨k, n, hk, rfl, rfl, rfl, hp0, hp1, rfl, heq⟩ := hrel
      have HEQ := Lib.hid heq
      clear heq HV
      by_cases hlt : k < f.clitics.length
      · obtain ⟨b3, off3, rfl, hb3, hcell3⟩ := HC3.out (by omega)
        obtain ⟨c, hc⟩ : ∃ c, f.clitics[k]? = some c := ⟨_, List.getElem?_eq_getElem hlt⟩
        obtain ⟨hclo, hchi⟩ := HFIT.out.cl k c hc
        have fc0 : w.cell? ⟨b3, off3 + k, none⟩ = some (.int .i64 c) := by
          have := hcell3 k c hc 0 _ rfl
          simpa using this
        obtain ⟨b2, off2, rfl, hb2, hcell2⟩ := HC2.out (by omega)
        obtain ⟨g, hg⟩ : ∃ g, x.clitics[c.toNat]? = some g := ⟨_, List.getElem?_eq_getElem (by omega)⟩
        have fg1 : w.cell? ⟨b2, off2 + c.toNat * 3 + 2, none⟩ = some (.int .i64 g.weight) := hcell2 _ g hg 2 _ rfl
        obtain ⟨_, _, _, hg0, hg1, _⟩ := Lx.ok_clitic (Lx.good_at HPAR.out.2.2.2 hg)
        have hb2' : b2 < w.heap.size + 1 := by omega
        have hb3' : b3 < w.heap.size + 1 := by omega
        have HN : Hid (Lx.heavyV x f = (n + g.weight) + Lx.weighCs x (f.clitics.drop (k + 1))) := Lib.hid (by
          rw [HEQ.out, List.drop_eq_getElem_cons hlt]
          rw [List.getElem?_eq_getElem hlt] at hc
          injection hc with hc
          rw [hc]
          simp [Lx.weighCs, Lx.weighC, hg]
          omega)
        clear hc hg hcell2 hcell3
        go_wp2_with fail
        go_roundg (f.clitics.length - (k + 1))
        case measure => omega
        case rel => exact ⟨k + 1, _, by omega, rfl, by go_num, rfl, by omega, by omega, rfl, HN.out⟩
      · have HF : Hid (Lx.heavyV x f = n) := Lib.hid (by rw [HEQ.out, List.drop_eq_nil_of_le (by omega)]; simp [Lx.weighCs])
        go_wp2_with fail
        go_ret
        exact ⟨ret_int HF.out.symm, HBX.out _ _⟩
end Go.Proofs.YtpmnpnlfgfleeaaGreatDoor
