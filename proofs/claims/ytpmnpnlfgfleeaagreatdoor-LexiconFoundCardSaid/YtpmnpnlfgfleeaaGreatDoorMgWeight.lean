/- All matches of a line: plain notions. The weight of a form: plain notions. lexicon.weight: the weight of a valid form. -/
import Derived.Test.YtpmnpnlfgfleeaaGreatDoorMgStem
namespace Lx
/-- is the q-th ending (0: none) of another kind than the entry? -/
def skipB (x : Lexicon) (e : Entry) (q : Nat) : Bool := decide (0 < q) && (match x.endings[q - 1]? with
  | some g => decide (g.kind ≠ e.kind)
  | none => false)
/-- the forms of entry i with the q-th ending (0: none) whose sounds begin s -/
def matchesQ (x : Lexicon) (s : ByteArray) (i : Nat) (e : Entry) (q : Nat) : List Match :=
  if skipB x e q = true then []
  else if pre s 0 (stemV x ⟨(i : Int), (q : Int) - 1, []⟩) then leanF x s 3 ⟨(i : Int), (q : Int) - 1, [], (stemV x ⟨(i : Int), (q : Int) - 1, []⟩).size⟩ 0 else []
def matchesTo (x : Lexicon) (s : ByteArray) (i : Nat) (e : Entry) (n : Nat) : List Match := (List.range n).flatMap (matchesQ x s i e)
def matchesE (x : Lexicon) (s : ByteArray) (i : Nat) : List Match := match x.entries[i]? with
  | some e => if pre s 0 e.root then matchesTo x s i e (x.endings.length + 1) else []
  | none => []
def matchesN (x : Lexicon) (s : ByteArray) (n : Nat) : List Match := (List.range n).flatMap (matchesE x s)
def matchesV (x : Lexicon) (s : ByteArray) : List Match := matchesN x s x.entries.length
theorem matchesTo_zero (x : Lexicon) (s : ByteArray) (i : Nat) (e : Entry) : matchesTo x s i e 0 = [] := rfl
theorem matchesTo_succ (x : Lexicon) (s : ByteArray) (i : Nat) (e : Entry) (n : Nat) : matchesTo x s i e (n + 1) = matchesTo x s i e n ++ matchesQ x s i e n := by
  simp [matchesTo, List.range_succ, List.flatMap_append]
theorem matchesN_zero (x : Lexicon) (s : ByteArray) : matchesN x s 0 = [] := rfl
theorem matchesN_succ (x : Lexicon) (s : ByteArray) (n : Nat) : matchesN x s (n + 1) = matchesN x s n ++ matchesE x s n := by
  simp [matchesN, List.range_succ, List.flatMap_append]
theorem matchesE_yes {x : Lexicon} {s : ByteArray} {i : Nat} {e : Entry} (he : x.entries[i]? = some e) (hp : pre s 0 e.root = true) : matchesE x s i = matchesTo x s i e (x.endings.length + 1) := by
  simp [matchesE, he, hp]
theorem matchesE_no {x : Lexicon} {s : ByteArray} {i : Nat} {e : Entry} (he : x.entries[i]? = some e) (hp : pre s 0 e.root = false) : matchesE x s i = [] := by
  simp [matchesE, he, hp]
theorem matchesQ_len (x : Lexicon) (s : ByteArray) (hn : x.clitics.length ≤ 10) (i : Nat) (e : Entry) (q : Nat) : (matchesQ x s i e q).length ≤ 1331 := by
  unfold matchesQ
  split
  · simp
  · split
    · exact leanF_len x s hn 3 _ _
    · simp
theorem matchesTo_len (x : Lexicon) (s : ByteArray) (hn : x.clitics.length ≤ 10) (i : Nat) (e : Entry) (n : Nat) : (matchesTo x s i e n).length ≤ n * 1331 := by
  have := flatMap_len (f := matchesQ x s i e) (B := 1331) (List.range n) (fun q _ => matchesQ_len x s hn i e q)
  rwa [List.length_range] at this
theorem matchesE_len (x : Lexicon) (s : ByteArray) (hn : x.clitics.length ≤ 10) (hm : x.endings.length ≤ 40) (i : Nat) : (matchesE x s i).length ≤ 54571 := by
  unfold matchesE
  split
  · split
    · have := matchesTo_len x s hn i ‹_› (x.endings.length + 1); omega
    · simp
  · simp
theorem matchesN_len (x : Lexicon) (s : ByteArray) (hn : x.clitics.length ≤ 10) (hm : x.endings.length ≤ 40) (n : Nat) : (matchesN x s n).length ≤ n * 54571 := by
  have := flatMap_len (f := matchesE x s) (B := 54571) (List.range n) (fun q _ => matchesE_len x s hn hm q)
  rwa [List.length_range] at this
theorem tooMany_no {x : Lexicon} (h : tooMany x = false) : x.entries.length ≤ 200 ∧ x.endings.length ≤ 40 ∧ x.clitics.length ≤ 10 := by
  simp [tooMany] at h; omega
def skipP (x : Lexicon) (e : Entry) (p : Int) : Bool := decide (0 ≤ p) && (match x.endings[p.toNat]? with
  | some g => decide (g.kind ≠ e.kind)
  | none => false)
theorem skipP_eq (x : Lexicon) (e : Entry) {p : Int} (h : -1 ≤ p) : skipB x e (p + 1).toNat = skipP x e p := by
  unfold skipB skipP
  rw [show (p + 1).toNat - 1 = p.toNat by omega, show decide (0 < (p + 1).toNat) = decide (0 ≤ p) by simp; omega]
theorem matchesTo_next {x : Lexicon} {s : ByteArray} {i : Nat} {e : Entry} {p : Int} (h : -1 ≤ p) : matchesTo x s i e (p + 1 + 1).toNat = matchesTo x s i e (p + 1).toNat ++ matchesQ x s i e (p + 1).toNat := by
  rw [show (p + 1 + 1).toNat = (p + 1).toNat + 1 by omega, matchesTo_succ]
theorem matchesQ_skip {x : Lexicon} {s : ByteArray} {i : Nat} {e : Entry} {p : Int} (h : -1 ≤ p) (hs : skipP x e p = true) : matchesQ x s i e (p + 1).toNat = [] := by
  rw [matchesQ, skipP_eq x e h, if_pos hs]
theorem matchesQ_no {x : Lexicon} {s : ByteArray} {i : Nat} {e : Entry} {p : Int} (h : -1 ≤ p) (hs : skipP x e p = false) (hp : pre s 0 (stemV x ⟨(i : Int), p, []⟩) = false) : matchesQ x s i e (p + 1).toNat = [] := by
  rw [matchesQ, skipP_eq x e h, if_neg (by simp [hs]), show (((p + 1).toNat : Nat) : Int) - 1 = p by omega, if_neg (by simp [hp])]
theorem matchesQ_yes {x : Lexicon} {s : ByteArray} {i : Nat} {e : Entry} {p : Int} (h : -1 ≤ p) (hs : skipP x e p = false) (hp : pre s 0 (stemV x ⟨(i : Int), p, []⟩) = true) : matchesQ x s i e (p + 1).toNat = leanF x s 3 ⟨(i : Int), p, [], (stemV x ⟨(i : Int), p, []⟩).size⟩ 0 := by
  rw [matchesQ, skipP_eq x e h, if_neg (by simp [hs]), show (((p + 1).toNat : Nat) : Int) - 1 = p by omega, if_pos hp]
end Lx
namespace Lx
def weighC (x : Lexicon) (c : Int) : Int := match x.clitics[c.toNat]? with
  | some g => g.weight
  | none => 0
def weighCs (x : Lexicon) : List Int → Int
  | [] => 0
  | c :: r => weighC x c + weighCs x r
def weighE (x : Lexicon) (f : Form) (n : Int) : Int := if f.ending < 0 then n else match x.endings[f.ending.toNat]? with
  | some g => n + g.weight
  | none => n
def heavyV (x : Lexicon) (f : Form) : Int := match x.entries[f.entry.toNat]? with
  | some e => weighE x f e.weight + weighCs x f.clitics
  | none => 0
/-- entry, ending and clitics of a form are there -/
structure FitsC (x : Lexicon) (f : Form) : Prop extends Fits x f where
  few : f.clitics.length ≤ 3
  cl : ∀ (k : Nat) (c : Int), f.clitics[k]? = some c → 0 ≤ c ∧ c < x.clitics.length
theorem Valid.fitsC {x : Lexicon} {f : Form} (h : Valid x f) : FitsC x f := { toFits := h.fits, few := h.few, cl := h.cl }
theorem weighE_le {x : Lexicon} {f : Form} {n : Int} (hg : good Ending.ok Ending.same x.endings = true) : n ≤ weighE x f n ∧ weighE x f n ≤ n + 1000 := by
  unfold weighE
  split
  · omega
  · split
    · rename_i g h
      have := ok_ending (good_at hg h)
      omega
    · omega
theorem weighCs_le {x : Lexicon} (hg : good Clitic.ok Clitic.same x.clitics = true) : ∀ (l : List Int), 0 ≤ weighCs x l ∧ weighCs x l ≤ 1000 * l.length
  | [] => by simp [weighCs]
  | c :: r => by
    have h := weighCs_le hg r
    have h1 : 0 ≤ weighC x c ∧ weighC x c ≤ 1000 := by
      unfold weighC
      split
      · rename_i g h
        have := ok_clitic (good_at hg h)
        omega
      · omega
    simp only [weighCs, List.length_cons]
    omega
theorem heavyV_le {x : Lexicon} {f : Form} (h : checkV x = 0) (hf : f.clitics.length ≤ 3) : 0 ≤ heavyV x f ∧ heavyV x f ≤ 5000 := by
  obtain ⟨_, h1, h2, h3⟩ := check_parts h
  unfold heavyV
  split
  · rename_i e he
    have a := ok_entry (good_at h1 he)
    have b := weighE_le (f := f) (n := e.weight) h2
    have c := weighCs_le h3 f.clitics
    omega
  · omega
end Lx
namespace Go.Proofs.YtpmnpnlfgfleeaaGreatDoor
open Go.RowKit

set_option maxRecDepth 100000 in
set_option maxHeartbeats 4000000 in
theorem weight_any (v vf : Value) (x : Lx.Lexicon) (f : Lx.Form) (w : World) (hr : RdL w w.heap.size v x) (hf : RdF w w.heap.size vf f) (hchk : Lx.checkV x = 0) (hfit : Lx.FitsC x f) :
    Calls Tryz.prog 31 #[v, vf] w (RetIB (Lx.heavyV x f) w) := by
  obtain ⟨⟨v0, v1, v2, rfl, ⟨A0, c0, rfl, hl0, hm0, hc0⟩, ⟨A1, c1, rfl, hl1, hm1, hc1⟩, ⟨A2, c2, rfl, hl2, hm2, hc2⟩⟩, -, -, -⟩ := hr
  obtain ⟨⟨sf, rfl, ⟨A3, c3, rfl, hl3, hm3, hc3⟩⟩⟩ := hf
  have hn0 : x.entries.length ≤ 9223372036854775807 := by omega
  have hn1 : x.endings.length ≤ 9223372036854775807 := by omega
  have hn2 : x.clitics.length ≤ 9223372036854775807 := by omega
  have hn3 : f.clitics.length ≤ 9223372036854775807 := by omega
  clear hl0 hl1 hl2 hl3 hm0 hm1 hm2 hm3
  have hpar := Lx.check_parts hchk
  obtain ⟨hlo, hhi⟩ := hfit.ent
  obtain ⟨b, off, rfl, hb, hcell⟩ := hc0 (by omega)
  obtain ⟨e, he⟩ : ∃ e, x.entries[f.entry.toNat]? = some e := ⟨_, List.getElem?_eq_getElem (by omega)⟩
  obtain ⟨_, _, _, _, _, hw0, hw1, _⟩ := Lx.ok_entry (Lx.good_at hpar.2.1 he)
  have f3 : w.cell? ⟨b, off + f.entry.toNat * 4 + 3, none⟩ = some (.int .i64 e.weight) := hcell _ e he 3 _ rfl
  have HBX : Hid (∀ A B : Obj, Below w.heap.size w ((w.alloc A).alloc B)) := Lib.hid fun A B => ((Below.refl _ _).alloc (Nat.le_refl _) _).alloc (by simp) _
  have HV : Hid (Lx.heavyV x f = Lx.weighE x f e.weight + Lx.weighCs x f.clitics) := Lib.hid (by simp [Lx.heavyV, he])
  have HPAR := Lib.hid hpar
  have HFIT := Lib.hid hfit
  have HC1 := Lib.hid hc1
  have HC2 := Lib.hid hc2
  have HC3 := Lib.hid hc3
  have hfin := hfit.fin
  clear hcell hchk he hpar hfit hc1 hc2 hc3
  go_enter Tryz.func31, Tryz.ntmps31
  go_upto_if 17 with fail
  go_cut [5] (fun t wc => t = .int .i64 (Lx.weighE x f e.weight) ∧ wc = (w.alloc (.cells #[.slice (some ⟨b, off, none⟩) x.entries.length c0, .slice A1 x.endings.length c1, .slice A2 x.clitics.length c2] 26)).alloc (.cells #[.int .i64 f.entry, .int .i64 f.ending, .slice A3 f.clitics.length c3] 29))
  case first =>
    by_cases hneg : f.ending < 0
    · go_wp2_with fail
      go_meet
      go_light
      refine ⟨?_, rfl⟩
      rw [Lx.weighE, if_pos hneg]
    · have hge : 0 ≤ f.ending := by omega
      have hlt1 : f.ending < (x.endings.length : Int) := by omega
      obtain ⟨b1, off1, rfl, hb1, hcell1⟩ := HC1.out (by omega)
      obtain ⟨g, hg⟩ : ∃ g, x.endings[f.ending.toNat]? = some g := ⟨_, List.getElem?_eq_getElem (by omega)⟩
      have fg3 : w.cell? ⟨b1, off1 + f.ending.toNat * 4 + 3, none⟩ = some (.int .i64 g.weight) := hcell1 _ g hg 3 _ rfl
      obtain ⟨_, _, _, hg0, hg1, _⟩ := Lx.ok_ending (Lx.good_at HPAR.out.2.2.1 hg)
      have HG := Lib.hid hg
      clear hg hcell1 hfin
      go_wp2_with fail
      go_meet
      go_light
      refine ⟨?_, rfl⟩
      rw [Lx.weighE, if_neg (by omega), HG.out]
  case rest =>
    obtain ⟨rfl, rfl⟩ := hcut
    obtain ⟨hn0', hn1'⟩ := Lx.weighE_le (f := f) (n := e.weight) HPAR.out.2.2.1
    generalize hq0 : Lx.weighE x f e.weight = n0 at *
    clear hq0 hfin
    have hfew := HFIT.out.few
    go_wp2_with fail
    go_loopg [5, 30] f.clitics.length (fun g t i wr => ∃ (k : Nat) (n : Int), k ≤ f.clitics.length ∧ g = f.clitics.length - k ∧ i = .int .i64 k ∧ t = .int .i64 n ∧ 0 ≤ n ∧ n ≤ 2000 + 1000 * k ∧
      wr = (w.alloc (.cells #[.slice (some ⟨b, off, none⟩) x.entries.length c0, .slice A1 x.endings.length c1, .slice A2 x.clitics.length c2] 26)).alloc (.cells #[.int .i64 f.entry, .int .i64 f.ending, .slice A3 f.clitics.length c3] 29) ∧
      Lx.heavyV x f = n + Lx.weighCs x (f.clitics.drop k))
    case atStart => exact ⟨0, n0, Nat.zero_le _, rfl, rfl, rfl, by omega, by omega, rfl, by simpa using HV.out⟩
    case round =>
      obtain ⟨k, n, hk, rfl, rfl, rfl, hp0, hp1, rfl, heq⟩ := hrel
      have HEQ := Lib.hid heq
      clear heq HV
      by_cases hlt : k < f.clitics.length
      · obtain ⟨b3, off3, rfl, hb3, hcell3⟩ := HC3.out (by omega)
        obtain ⟨c, hc⟩ : ∃ c, f.clitics[k]? = some c := ⟨_, List.getElem?_eq_getElem hlt⟩
        obtain ⟨hclo, hchi⟩ := HFIT.out.cl k c hc
        have fc0 : w.cell? ⟨b3, off3 + k, none⟩ = some (.int .i64 c) := by
          have := hcell3 k c hc 0 _ rfl
          simpa using this
        obtain ⟨b2, off2, rfl, hb2, hcell2⟩ := HC2.out (by omega)
        obtain ⟨g, hg⟩ : ∃ g, x.clitics[c.toNat]? = some g := ⟨_, List.getElem?_eq_getElem (by omega)⟩
        have fg1 : w.cell? ⟨b2, off2 + c.toNat * 3 + 2, none⟩ = some (.int .i64 g.weight) := hcell2 _ g hg 2 _ rfl
        obtain ⟨_, _, _, hg0, hg1, _⟩ := Lx.ok_clitic (Lx.good_at HPAR.out.2.2.2 hg)
        have hb2' : b2 < w.heap.size + 1 := by omega
        have hb3' : b3 < w.heap.size + 1 := by omega
        have HN : Hid (Lx.heavyV x f = (n + g.weight) + Lx.weighCs x (f.clitics.drop (k + 1))) := Lib.hid (by
          rw [HEQ.out, List.drop_eq_getElem_cons hlt]
          rw [List.getElem?_eq_getElem hlt] at hc
          injection hc with hc
          rw [hc]
          simp [Lx.weighCs, Lx.weighC, hg]
          omega)
        clear hc hg hcell2 hcell3
        go_wp2_with fail
        go_roundg (f.clitics.length - (k + 1))
        case measure => omega
        case rel => exact ⟨k + 1, _, by omega, rfl, by go_num, rfl, by omega, by omega, rfl, HN.out⟩
      · have HF : Hid (Lx.heavyV x f = n) := Lib.hid (by rw [HEQ.out, List.drop_eq_nil_of_le (by omega)]; simp [Lx.weighCs])
        go_wp2_with fail
        go_ret
        exact ⟨ret_int HF.out.symm, HBX.out _ _⟩
end Go.Proofs.YtpmnpnlfgfleeaaGreatDoor
