/- ostraconlaw05.Large and far. The example of the laws: what is reckoned. works: the look at an example. ostraconlaw05.LexiconGlosses: the walk. Made by gen_lawgloss.py. ostraconlaw05.LexiconWith: the walk. Made by gen_lawwith.py. -/
import Derived.Test.YtpmnpnlfgfleeaaGreatDoorMgBig
import Derived.Test.YtpmnpnlfgfleeaaGreatDoorMgStem
import Derived.Test.YtpmnpnlfgfleeaaGreatDoorMgCutsPlain
import Derived.Test.YtpmnpnlfgfleeaaGreatDoorMgFitsPlain
import Derived.Test.YtpmnpnlfgfleeaaGreatDoorMgCuts
import Derived.Test.YtpmnpnlfgfleeaaGreatDoorMgParse
import Derived.Test.YtpmnpnlfgfleeaaGreatDoorMgCopy
import Derived.Test.YtpmnpnlfgfleeaaGreatDoorMgCutsFine
import Derived.Test.YtpmnpnlfgfleeaaGreatDoorMgRWith
import Derived.Test.YtpmnpnlfgfleeaaGreatDoorMgRegion4
import Derived.Test.YtpmnpnlfgfleeaaGreatDoorMgLeastF
namespace Go.Proofs.YtpmnpnlfgfleeaaGreatDoor
open Go.RowKit

def Lx.largeV (x : Lx.Lexicon) : Bool := Lx.bigV x || decide (20 < x.entries.length) || decide (6 < x.endings.length) || decide (5 < x.clitics.length)
def Lx.farV (x : Lx.Lexicon) (s : ByteArray) : Bool := Lx.largeV x || decide (100 < s.size)

set_option maxRecDepth 100000 in
set_option maxHeartbeats 2000000 in
theorem Large_any (v : Value) (x : Lx.Lexicon) (w : World) (hr : RdL w w.heap.size v x) : Calls Tryz.prog 6 #[v] w (RetBB (Lx.largeV x) w) := by
  have HB : Hid (∀ W, Below w.heap.size w W → Calls Tryz.prog 22 #[v] W (RetBB (Lx.bigV x) W)) := Lib.hid fun W hW => Big_any v x W ((hr.below hW).more hW.size)
  obtain ⟨⟨v0, v1, v2, rfl, ⟨A0, c0, rfl, hl0, hm0, -⟩, ⟨A1, c1, rfl, hl1, hm1, -⟩, ⟨A2, c2, rfl, hl2, hm2, -⟩⟩, -, -, -⟩ := hr
  have hn0 : x.entries.length ≤ 9223372036854775807 := by omega
  have hn1 : x.endings.length ≤ 9223372036854775807 := by omega
  have hn2 : x.clitics.length ≤ 9223372036854775807 := by omega
  clear hl0 hl1 hl2 hm0 hm1 hm2
  have hal : Below w.heap.size w (w.alloc (.cells #[.slice A0 x.entries.length c0, .slice A1 x.endings.length c1, .slice A2 x.clitics.length c2] 26)) := (Below.refl _ _).alloc (Nat.le_refl _) _
  go_enter Tryz.func6, Tryz.ntmps6
  go_wp2_with fail
  refine (HB.out _ hal).mono ?_
  rintro e1 w1 ⟨rfl, hb1⟩
  have hX := (hb1.block w.heap.size (by simp)).trans (heap_alloc_new _ _)
  have x0 : w1.cell? ⟨w.heap.size, 0, none⟩ = some (.slice A0 x.entries.length c0) := by simp [World.cell?, hX]
  have x1 : w1.cell? ⟨w.heap.size, 1, none⟩ = some (.slice A1 x.endings.length c1) := by simp [World.cell?, hX]
  have x2 : w1.cell? ⟨w.heap.size, 2, none⟩ = some (.slice A2 x.clitics.length c2) := by simp [World.cell?, hX]
  have HB1 := Lib.hid (hal.trans (hb1.mono hal.size))
  clear hb1 hX hal
  have HF : Hid (Lx.largeV x = (Lx.bigV x || decide ((20 : Int) < (x.entries.length : Int)) || decide ((6 : Int) < (x.endings.length : Int)) || decide ((5 : Int) < (x.clitics.length : Int)))) := Lib.hid (by
    unfold Lx.largeV
    congr 1
    · congr 1
      · congr 1
        rw [Bool.eq_iff_iff]; simp; omega
      · rw [Bool.eq_iff_iff]; simp; omega
    · rw [Bool.eq_iff_iff]; simp; omega)
  cases hb : Lx.bigV x
  · rw [hb] at HF
    by_cases h0 : (20 : Int) < (x.entries.length : Int)
    · have HV : Hid (Lx.largeV x = true) := Lib.hid (by rw [HF.out]; simp [h0])
      clear HF
      go_wp2_with fail
      go_ret
      exact ⟨ret_bool HV.out.symm, HB1.out⟩
    · by_cases h1 : (6 : Int) < (x.endings.length : Int)
      · have HV : Hid (Lx.largeV x = true) := Lib.hid (by rw [HF.out]; simp [h1])
        clear HF
        go_wp2_with fail
        go_ret
        exact ⟨ret_bool HV.out.symm, HB1.out⟩
      · have HV : Hid (Lx.largeV x = decide ((5 : Int) < (x.clitics.length : Int))) := Lib.hid (by rw [HF.out]; simp [h0, h1])
        clear HF
        by_cases h2 : (5 : Int) < (x.clitics.length : Int)
        · go_wp2_with fail
          go_ret
          exact ⟨ret_bool (by rw [HV.out]; simp <;> omega), HB1.out⟩
        · go_wp2_with fail
          go_ret
          exact ⟨ret_bool (by rw [HV.out]; simp <;> omega), HB1.out⟩
  · rw [hb] at HF
    have HV : Hid (Lx.largeV x = true) := Lib.hid (by rw [HF.out]; simp)
    clear HF
    go_wp2_with fail
    go_ret
    exact ⟨ret_bool HV.out.symm, HB1.out⟩


end Go.Proofs.YtpmnpnlfgfleeaaGreatDoor
namespace Lx
def nn : ByteArray := ⟨#[110, 110]⟩
def knownL : Lexicon := ⟨[⟨⟨#[110, 102, 114]⟩, 1, ⟨#[103, 111, 111, 100]⟩, 2⟩, ⟨⟨#[110]⟩, 2, ⟨#[]⟩, 1⟩], [⟨1, ⟨#[116]⟩, ⟨#[102, 101, 109]⟩, 1⟩], [⟨⟨#[102]⟩, ⟨#[104, 105, 115]⟩, 1⟩, ⟨⟨#[114]⟩, ⟨#[116, 111]⟩, 0⟩]⟩
def atsL (i : Nat) : List Match := matchesV knownL (nn.extract i nn.size)
def put0 (l : List Tail) (t : Tail) : List Tail := match l with
  | [] => [t]
  | _ => []
theorem put0_mem (l : List Tail) (t y : Tail) (h : y ∈ put0 l t) : y = t ∨ y ∈ l := by
  cases l with
  | nil => simp [put0] at h; exact .inl h
  | cons a r => simp [put0] at h
theorem put0_len (l : List Tail) (t : Tail) : (put0 l t).length ≤ 1 := by
  cases l <;> simp [put0]
theorem ats_len : ∀ i, i < 2 → (atsL i).length = 1 := by decide +kernel
theorem tab0_len (x : Lexicon) (ats : Nat → List Match) (n : Nat) : ∀ k j, (tabT x put0 ats n k j).length ≤ 1 := by
  intro k
  induction k with
  | zero => intro j; simp only [tabT]; split <;> simp
  | succ k ih =>
    intro j
    simp only [tabT]
    split
    · refine foldl_inv (P := fun l : List Tail => l.length ≤ 1) _ [] (by simp) ?_
      intro l m hl _
      exact foldl_inv (P := fun l : List Tail => l.length ≤ 1) _ l hl (fun l' nx _ _ => put0_len _ _)
    · exact ih j
theorem occ0 {l : List Tail} {t : Tail} (h : Occ knownL put0 atsL 2 l t) : l = [] := by
  obtain ⟨k, a, b, m, nx, hk, ha, hb, _, rfl⟩ := h.ex
  have h1 := (List.getElem?_eq_some_iff.1 ha).1
  have h2 := (List.getElem?_eq_some_iff.1 hb).1
  have h3 := ats_len (2 - (k + 1)) (by omega)
  have h4 := tab0_len knownL atsL 2 k (2 - (k + 1) + m.long)
  obtain rfl : a = 0 := by omega
  obtain rfl : b = 0 := by omega
  simp [addNexts, addMs]
theorem cuts0_len : (cutsOf (tabT knownL put0 atsL 2 2 0)).length = 1 := by decide +kernel
theorem cuts0_forms : (cutsOf (tabT knownL put0 atsL 2 2 0)).map (fun c => (c.1.length, c.2)) = [(2, 2)] := by decide +kernel
theorem check0 : checkV knownL = 0 := by decide +kernel
theorem sounds0 : soundsB nn 64 = true := by decide +kernel
theorem form0 : formV knownL ⟨0, 0, [0]⟩ = 0 := by decide +kernel
theorem gloss0 : glossR knownL ⟨0, 0, [0]⟩ = ⟨#[110, 102, 114, 47, 49, 47, 103, 111, 111, 100, 45, 102, 101, 109, 61, 104, 105, 115]⟩ := by decide +kernel
end Lx
namespace Go.Proofs.YtpmnpnlfgfleeaaGreatDoor
open Go.RowKit

theorem known_eq : Lx.known = _root_.Lx.knownL := rfl
theorem speech0 : Lx.speechV _root_.Lx.knownL _root_.Lx.nn = 0 := by
  unfold Lx.speechV
  rw [_root_.Lx.check0, _root_.Lx.sounds0]
  rfl
theorem Cuts_works (vx : Value) (w : World) (hr : RdL w w.heap.size vx _root_.Lx.knownL) :
    Calls Tryz.prog 28 #[vx, .string ⟨#[110, 110]⟩, .int .i64 64] w (RetVI w (fun w' v => RdG KCut w' (fun b => b < w'.heap.size) v (_root_.Lx.cutsOf (_root_.Lx.tabT _root_.Lx.knownL _root_.Lx.put0 _root_.Lx.atsL 2 2 0))) 0) :=
  Cuts_any _root_.Lx.put0 _root_.Lx.knownL _root_.Lx.nn 64 vx w hr speech0 (by decide) (by decide) _root_.Lx.put0_mem (fun l t => Nat.le_trans (_root_.Lx.put0_len l t) (by decide)) (fun tv l t _ ho => by
    have h0 := _root_.Lx.occ0 ho
    subst h0
    exact add_first (by decide) (by decide) rfl)

set_option maxRecDepth 100000 in
set_option maxHeartbeats 4000000 in
theorem works_any (w : World) : Calls Tryz.prog 8 #[] w (RetBB true w) := by
  go_enter Tryz.func8, Tryz.ntmps8
  go_wp2_with fail
  refine (known_any _).mono ?_
  rintro e1 w1 ⟨v1, rfl, hk1, hb1⟩
  have HB1 := Lib.hid hb1
  have HK1 := Lib.hid hk1
  obtain ⟨⟨v10, v11, v12, rfl, -⟩, -, -, -⟩ := hk1
  clear hb1
  go_wp2_with fail
  have hal : Below w1.heap.size w1 (w1.alloc (.cells #[.int .i64 0] 3)) := (Below.refl _ _).alloc (Nat.le_refl _) _
  have hfr : RdF (w1.alloc (.cells #[.int .i64 0] 3)) (w1.heap.size + 1) (.agg #[.int .i64 0, .int .i64 0, .slice (some ⟨w1.heap.size, 0, none⟩) 1 1]) ⟨0, 0, [0]⟩ :=
    ⟨⟨_, rfl, rds_block (xs := [(0 : Int)]) len_int (heap_alloc_new _ _) rfl (by omega) (Nat.le_refl 1) (by decide)⟩⟩
  refine (Gloss_any _ _ _root_.Lx.knownL ⟨0, 0, [0]⟩ _ ((HK1.out.below hal).more hal.size) (by simpa using hfr)).mono ?_
  rintro e2 w2 ⟨rfl, hb2⟩
  rw [_root_.Lx.gloss0, _root_.Lx.form0]
  have HB2 := Lib.hid (HB1.out.trans ((hal.trans (hb2.mono hal.size)).mono HB1.out.size))
  clear hal hfr hb2
  go_wp2_with fail
  refine (known_any _).mono ?_
  rintro e3 w3 ⟨v3, rfl, hk3, hb3⟩
  have HB3 := Lib.hid (HB2.out.trans (hb3.mono HB2.out.size))
  have HK3 := Lib.hid hk3
  obtain ⟨⟨v30, v31, v32, rfl, -⟩, -, -, -⟩ := hk3
  clear hb3
  go_wp2_with fail
  refine (Cuts_works _ _ HK3.out).mono ?_
  rintro e4 w4 ⟨v4, rfl, hq, hb4⟩
  have HB4 := Lib.hid (HB3.out.trans (hb4.mono HB3.out.size))
  clear hb4
  obtain ⟨c, hc, hc1, hc2⟩ : ∃ c, _root_.Lx.cutsOf (_root_.Lx.tabT _root_.Lx.knownL _root_.Lx.put0 _root_.Lx.atsL 2 2 0) = [c] ∧ c.1.length = 2 ∧ c.2 = 2 := by
    have h1 := _root_.Lx.cuts0_forms
    generalize _root_.Lx.cutsOf (_root_.Lx.tabT _root_.Lx.knownL _root_.Lx.put0 _root_.Lx.atsL 2 2 0) = l at h1
    cases l with
    | nil => cases h1
    | cons c r =>
      cases r with
      | nil => simp at h1; exact ⟨c, rfl, h1.1, h1.2⟩
      | cons _ _ => simp at h1
  rw [hc] at hq
  obtain ⟨A4, c4, rfl⟩ := hq.form
  obtain ⟨b4, o4, rfl, hbl, hat⟩ := hq.at (by simp)
  obtain ⟨cs, ⟨vf, rfl, hrf⟩, hcell⟩ := hat 0 c rfl
  obtain ⟨Af, cf, rfl⟩ := hrf.form
  have g0 : w4.cell? ⟨b4, o4, none⟩ = some (.slice Af c.1.length cf) := by have := hcell 0 _ rfl; simpa [KCut] using this
  have g1 : w4.cell? ⟨b4, o4 + 1, none⟩ = some (.int .i64 c.2) := by have := hcell 1 _ rfl; simpa [KCut] using this
  rw [hc1] at g0
  rw [hc2] at g1
  clear hcell hat hrf hq hc hc1 hc2
  go_wp2_with fail
  go_ret
  exact ⟨rfl, HB4.out⟩
end Go.Proofs.YtpmnpnlfgfleeaaGreatDoor
namespace Go.Proofs.YtpmnpnlfgfleeaaGreatDoor
open Go.RowKit

theorem Lx.read_small {x : Lx.Lexicon} {s : ByteArray} {f : Lx.Form} {n : Int} (h : Lx.ReadG x s f n) : FSmall f := by
  have hz : FSmall ⟨0, 0, []⟩ := ⟨by simp, by simp, by simp, fun k c hc => by simp at hc⟩
  rcases h with ⟨_, _, rfl⟩ | ⟨_, ⟨_, hf, _⟩ | ⟨_, rfl, _⟩⟩
  · exact hz
  · have hv := Lx.valid_of hf
    obtain ⟨t0, t1, t2⟩ := Lx.tooMany_no (Lx.check_parts hv.chk).1
    exact FitsC.small hv.fitsC (by omega) (by omega) (by omega) (by have := hv.fin; omega)
  · exact hz
theorem Lx.not_big {x : Lx.Lexicon} (h : Lx.largeV x = false) : x.entries.length ≤ 210 ∧ x.endings.length ≤ 50 ∧ x.clitics.length ≤ 15 := by
  simp [Lx.largeV] at h
  omega
structure LgR (T0 : Array Value) (W0 : World) (xv fv : Value) (bx bf : Nat) (x : Lx.Lexicon) (f : Lx.Form) (sg : ByteArray) (n : Int) (d : Array Bool) (t : Array Value) (wc : World) : Prop where
  bel : Below W0.heap.size W0 wc
  siz : t.size = 77
  kp : ∀ i, i ∉ ([7, 8, 29, 30, 31, 32, 33, 34, 35, 36] : List Nat) → t[i]? = T0[i]?
  k3 : t[3]? = some (.pointer (some ⟨bx, 0, none⟩))
  k4 : t[4]? = some (.pointer (some ⟨bf, 0, none⟩))
  p0 : dn d 0 → t[30]? = some (xv)
  p1 : dn d 1 → ∃ v, t[31]? = some v ∧ RdL wc wc.heap.size v x
  p2 : dn d 2 → t[32]? = some (fv)
  p3 : dn d 3 → ∃ v, t[33]? = some v ∧ RdF wc wc.heap.size v f
  p4 : dn d 4 → t[34]? = some (.tuple #[.string sg, .int .i64 n])
  p5 : dn d 5 → t[29]? = some (.tuple #[.string sg, .int .i64 n])
  p6 : dn d 6 → t[35]? = some (.string sg)
  p7 : dn d 7 → t[36]? = some (.int .i64 n)
  p8 : dn d 8 → t[7]? = some (.string sg)
  p9 : dn d 9 → t[8]? = some (.int .i64 n)
def LgI (T0 : Array Value) (W0 : World) (xv fv : Value) (bx bf : Nat) (x : Lx.Lexicon) (f : Lx.Form) (sg : ByteArray) (n : Int) (d : Array Bool) (a : Act) (wc : World) : Prop := ∃ t : Array Value, a = ⟨t, []⟩ ∧ LgR T0 W0 xv fv bx bf x f sg n d t wc


end Go.Proofs.YtpmnpnlfgfleeaaGreatDoor
namespace Go.Proofs.YtpmnpnlfgfleeaaGreatDoor
open Go.RowKit

theorem Lx.leanF_end {x : Lx.Lexicon} {s : ByteArray} : ∀ (fuel : Nat) (m : Lx.Match) (first : Nat), ∀ m' ∈ Lx.leanF x s fuel m first, m'.ending = m.ending
  | 0, m, first, m', h => by simp [Lx.leanF] at h; subst h; rfl
  | fuel + 1, m, first, m', h => by
    unfold Lx.leanF at h
    rw [List.mem_cons] at h
    rcases h with rfl | h
    · rfl
    · split at h
      · simp at h
      · rw [List.mem_flatMap] at h
        obtain ⟨c, _, h⟩ := h
        split at h
        · split at h
          · have := Lx.leanF_end fuel _ _ m' h
            exact this
          · simp at h
        · simp at h
theorem Lx.matchesV_end {x : Lx.Lexicon} {s : ByteArray} : ∀ m ∈ Lx.matchesV x s, -1 ≤ m.ending := by
  intro m hm
  unfold Lx.matchesV Lx.matchesN at hm
  rw [List.mem_flatMap] at hm
  obtain ⟨i, hi, hm⟩ := hm
  unfold Lx.matchesE at hm
  split at hm
  · split at hm
    · unfold Lx.matchesTo at hm
      rw [List.mem_flatMap] at hm
      obtain ⟨q, hq, hm⟩ := hm
      unfold Lx.matchesQ at hm
      split at hm
      · simp at hm
      · split at hm
        · rw [Lx.leanF_end _ _ _ m hm]; simp only; omega
        · simp at hm
    · simp at hm
  · simp at hm
theorem Lx.withV_small {x : Lx.Lexicon} {s : ByteArray} (h : Lx.checkV x = 0) : ∀ f ∈ Lx.withV x s, FSmall f := by
  intro f hf
  have hc := Lx.withV_fits h f hf
  obtain ⟨t0, t1, t2⟩ := Lx.tooMany_no (Lx.check_parts h).1
  refine FitsC.small hc (by omega) (by omega) (by omega) ?_
  unfold Lx.withV Lx.withL at hf
  rw [List.mem_map] at hf
  obtain ⟨m, hm, rfl⟩ := hf
  exact Lx.matchesV_end m (List.mem_filter.1 hm).1
theorem zero_small : FSmall ⟨0, 0, []⟩ := ⟨by simp, by simp, by simp, fun k c hc => by simp at hc⟩
theorem Lx.withR_small {x : Lx.Lexicon} {s : ByteArray} : ∀ f ∈ Lx.withR x s, FSmall f := by
  intro f hf
  unfold Lx.withR at hf
  split at hf
  · rename_i hn
    have hsp : Lx.speechV x s = 0 := by
      rcases Decidable.em (Lx.speechV x s = 0) with q | q
      · exact q
      · rw [(Lx.withN_bad q).1] at hn; exact absurd hn q
    exact Lx.withV_small (Lx.speech_parts hsp).1 f hf
  · cases hf
theorem Lx.leastR_small {x : Lx.Lexicon} {s : ByteArray} : FSmall (Lx.leastR x s) := by
  rcases Decidable.em (Lx.speechV x s = 0) with q | q
  · cases hw : Lx.withV x s with
    | nil => rw [(Lx.leastN_none q hw).2]; exact zero_small
    | cons f0 r =>
      rw [(Lx.leastN_good q hw).2]
      have hs := Lx.withV_small (s := s) (Lx.speech_parts q).1
      rw [hw] at hs
      rcases Lx.leastL_mem (x := x) r f0 with e | e
      · rw [e]; exact hs f0 (by simp)
      · exact hs _ (by simp [e])
  · rw [(Lx.leastN_bad q).2]; exact zero_small
structure WaR (T0 : Array Value) (W0 : World) (xv : Value) (bs : Nat) (x : Lx.Lexicon) (s : ByteArray) (l : List Lx.Form) (n : Int) (d : Array Bool) (t : Array Value) (wc : World) : Prop where
  bel : Below W0.heap.size W0 wc
  siz : t.size = 76
  kp : ∀ i, i ∉ ([3, 4, 21, 22, 23, 24, 25, 26, 27, 28, 29] : List Nat) → t[i]? = T0[i]?
  k1 : t[1]? = some (.pointer (some ⟨bs, 0, none⟩))
  p0 : dn d 0 → t[22]? = some (.pointer (some ⟨bs, 0, none⟩))
  p1 : dn d 1 → t[23]? = some (xv)
  p2 : dn d 2 → ∃ v, t[24]? = some v ∧ RdL wc wc.heap.size v x
  p3 : dn d 3 → t[25]? = some (.pointer (some ⟨bs, 3, none⟩))
  p4 : dn d 4 → t[26]? = some (.string s)
  p5 : dn d 5 → ∃ v, t[27]? = some v ∧ ∃ u, v = .tuple #[u, .int .i64 n] ∧ FormsIn W0 l wc u
  p6 : dn d 6 → ∃ v, t[21]? = some v ∧ ∃ u, v = .tuple #[u, .int .i64 n] ∧ FormsIn W0 l wc u
  p7 : dn d 7 → ∃ v, t[28]? = some v ∧ FormsIn W0 l wc v
  p8 : dn d 8 → t[29]? = some (.int .i64 n)
  p9 : dn d 9 → ∃ v, t[3]? = some v ∧ FormsIn W0 l wc v
  p10 : dn d 10 → t[4]? = some (.int .i64 n)
def WaI (T0 : Array Value) (W0 : World) (xv : Value) (bs : Nat) (x : Lx.Lexicon) (s : ByteArray) (l : List Lx.Form) (n : Int) (d : Array Bool) (a : Act) (wc : World) : Prop := ∃ t : Array Value, a = ⟨t, []⟩ ∧ WaR T0 W0 xv bs x s l n d t wc
structure WbR (T0 : Array Value) (W0 : World) (xv : Value) (bs : Nat) (x : Lx.Lexicon) (s : ByteArray) (f : Lx.Form) (n : Int) (d : Array Bool) (t : Array Value) (wc : World) : Prop where
  bel : Below W0.heap.size W0 wc
  siz : t.size = 76
  kp : ∀ i, i ∉ ([7, 8, 38, 39, 40, 41, 42, 43, 44, 45, 46] : List Nat) → t[i]? = T0[i]?
  k1 : t[1]? = some (.pointer (some ⟨bs, 0, none⟩))
  p0 : dn d 0 → t[39]? = some (.pointer (some ⟨bs, 0, none⟩))
  p1 : dn d 1 → t[40]? = some (xv)
  p3 : dn d 3 → t[42]? = some (.pointer (some ⟨bs, 3, none⟩))
  p4 : dn d 4 → t[43]? = some (.string s)
  p8 : dn d 8 → t[46]? = some (.int .i64 n)
  p11 : dn d 11 → t[8]? = some (.int .i64 n)
  k7 : ¬ dn d 9 → t[7]? = some undef
  p9 : dn d 9 → ∃ g, t[7]? = some (.pointer (some ⟨g, 0, none⟩)) ∧ W0.heap.size ≤ g ∧ g < wc.heap.size ∧ (¬ dn d 10 → wc.heap[g]? = some (.cells #[.int .i64 0, .int .i64 0, .slice none 0 0] 29 (0, 0)))
  p2 : dn d 2 → ¬ dn d 5 → ∃ v, t[41]? = some v ∧ RdL wc wc.heap.size v x
  p5 : dn d 5 → ∃ sx, t[44]? = some (.tuple #[.agg #[.int .i64 f.entry, .int .i64 f.ending, sx], .int .i64 n]) ∧ (dn d 6 → t[38]? = some (.tuple #[.agg #[.int .i64 f.entry, .int .i64 f.ending, sx], .int .i64 n])) ∧ (dn d 7 → t[45]? = some (.agg #[.int .i64 f.entry, .int .i64 f.ending, sx])) ∧ RdX wc (fun b => b < wc.heap.size ∧ W0.heap.size ≤ b ∧ t[7]? ≠ some (.pointer (some ⟨b, 0, none⟩))) 1 encInt sx f.clitics
  p10 : dn d 10 → ∃ g sx, t[7]? = some (.pointer (some ⟨g, 0, none⟩)) ∧ W0.heap.size ≤ g ∧ wc.heap[g]? = some (.cells #[.int .i64 f.entry, .int .i64 f.ending, sx] 29 (0, 0)) ∧ g < wc.heap.size ∧ RdX wc (fun b => b < wc.heap.size ∧ W0.heap.size ≤ b) 1 encInt sx f.clitics
  l7 : dn d 7 → dn d 6
  l6 : dn d 6 → dn d 5
  l10 : dn d 10 → dn d 9 ∧ dn d 7
def WbI (T0 : Array Value) (W0 : World) (xv : Value) (bs : Nat) (x : Lx.Lexicon) (s : ByteArray) (f : Lx.Form) (n : Int) (d : Array Bool) (a : Act) (wc : World) : Prop := ∃ t : Array Value, a = ⟨t, []⟩ ∧ WbR T0 W0 xv bs x s f n d t wc


end Go.Proofs.YtpmnpnlfgfleeaaGreatDoor
