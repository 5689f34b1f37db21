/- ostraconlaw05.Large and far. The example of the laws: what is reckoned. works: the look at an example. -/
import Derived.Test.YtpmfjndbckblfaaDoorMgBig
import Derived.Test.YtpmfjndbckblfaaDoorMgClone
import Derived.Test.YtpmfjndbckblfaaDoorMgRankPlain
import Derived.Test.YtpmfjndbckblfaaDoorMgFitsPlain
import Derived.Test.YtpmfjndbckblfaaDoorMgCuts
namespace Go.Proofs.YtpmfjndbckblfaaDoor
open Go.RowKit

def Lx.largeV (x : Lx.Lexicon) : Bool := Lx.bigV x || decide (20 < x.entries.length) || decide (6 < x.endings.length) || decide (5 < x.clitics.length)
def Lx.farV (x : Lx.Lexicon) (s : ByteArray) : Bool := Lx.largeV x || decide (100 < s.size)

set_option maxRecDepth 100000 in
set_option maxHeartbeats 2000000 in
theorem Large_any (v : Value) (x : Lx.Lexicon) (w : World) (hr : RdL w w.heap.size v x) : Calls Tryd.prog 45 #[v] w (RetBB (Lx.largeV x) w) := by
  have HB : Hid (∀ W, Below w.heap.size w W → Calls Tryd.prog 11 #[v] W (RetBB (Lx.bigV x) W)) := Lib.hid fun W hW => Big_any v x W ((hr.below hW).more hW.size)
  obtain ⟨⟨v0, v1, v2, rfl, ⟨A0, c0, rfl, hl0, hm0, -⟩, ⟨A1, c1, rfl, hl1, hm1, -⟩, ⟨A2, c2, rfl, hl2, hm2, -⟩⟩, -, -, -⟩ := hr
  have hn0 : x.entries.length ≤ 9223372036854775807 := by omega
  have hn1 : x.endings.length ≤ 9223372036854775807 := by omega
  have hn2 : x.clitics.length ≤ 9223372036854775807 := by omega
  clear hl0 hl1 hl2 hm0 hm1 hm2
  have hal : Below w.heap.size w (w.alloc (.cells #[.slice A0 x.entries.length c0, .slice A1 x.endings.length c1, .slice A2 x.clitics.length c2] 26)) := (Below.refl _ _).alloc (Nat.le_refl _) _
  go_enter Tryd.func45, Tryd.ntmps45
  go_wp2_with fail
  refine (HB.out _ hal).mono ?_
  rintro e1 w1 ⟨rfl, hb1⟩
  have hX := (hb1.block w.heap.size (by simp)).trans (heap_alloc_new _ _)
  have x0 : w1.cell? ⟨w.heap.size, 0, none⟩ = some (.slice A0 x.entries.length c0) := by simp [World.cell?, hX]
  have x1 : w1.cell? ⟨w.heap.size, 1, none⟩ = some (.slice A1 x.endings.length c1) := by simp [World.cell?, hX]
  have x2 : w1.cell? ⟨w.heap.size, 2, none⟩ = some (.slice A2 x.clitics.length c2) := by simp [World.cell?, hX]
  have HB1 := Lib.hid (hal.trans (hb1.mono hal.size))
  clear hb1 hX hal
  have HF : Hid (Lx.largeV x = (Lx.bigV x || decide ((20 : Int) < (x.entries.length : Int)) || decide ((6 : Int) < (x.endings.length : Int)) || decide ((5 : Int) < (x.clitics.length : Int)))) := Lib.hid (by
    unfold Lx.largeV
    congr 1
    · congr 1
      · congr 1
        rw [Bool.eq_iff_iff]; simp; omega
      · rw [Bool.eq_iff_iff]; simp; omega
    · rw [Bool.eq_iff_iff]; simp; omega)
  cases hb : Lx.bigV x
  · rw [hb] at HF
    by_cases h0 : (20 : Int) < (x.entries.length : Int)
    · have HV : Hid (Lx.largeV x = true) := Lib.hid (by rw [HF.out]; simp [h0])
      clear HF
      go_wp2_with fail
      go_ret
      exact ⟨ret_bool HV.out.symm, HB1.out⟩
    · by_cases h1 : (6 : Int) < (x.endings.length : Int)
      · have HV : Hid (Lx.largeV x = true) := Lib.hid (by rw [HF.out]; simp [h1])
        clear HF
        go_wp2_with fail
        go_ret
        exact ⟨ret_bool HV.out.symm, HB1.out⟩
      · have HV : Hid (Lx.largeV x = decide ((5 : Int) < (x.clitics.length : Int))) := Lib.hid (by rw [HF.out]; simp [h0, h1])
        clear HF
        by_cases h2 : (5 : Int) < (x.clitics.length : Int)
        · go_wp2_with fail
          go_ret
          exact ⟨ret_bool (by rw [HV.out]; simp <;> omega), HB1.out⟩
        · go_wp2_with fail
          go_ret
          exact ⟨ret_bool (by rw [HV.out]; simp <;> omega), HB1.out⟩
  · rw [hb] at HF
    have HV : Hid (Lx.largeV x = true) := Lib.hid (by rw [HF.out]; simp)
    clear HF
    go_wp2_with fail
    go_ret
    exact ⟨ret_bool HV.out.symm, HB1.out⟩

set_option maxRecDepth 100000 in
set_option maxHeartbeats 2000000 in
theorem far_any (v0 v1 v2 : Value) (x : Lx.Lexicon) (s : ByteArray) (w : World) (hr : RdL w w.heap.size (.agg #[v0, v1, v2]) x) (hs : s.size ≤ maxLen) : Calls Tryd.prog 20 #[.agg #[v0, v1, v2, .string s]] w (RetBB (Lx.farV x s) w) := by
  have HB : Hid (∀ W, Below w.heap.size w W → Calls Tryd.prog 45 #[.agg #[v0, v1, v2]] W (RetBB (Lx.largeV x) W)) := Lib.hid fun W hW => Large_any _ x W ((hr.below hW).more hW.size)
  obtain ⟨⟨_, _, _, e, ⟨A0, c0, rfl, -⟩, ⟨A1, c1, rfl, -⟩, ⟨A2, c2, rfl, -⟩⟩, -, -, -⟩ := hr
  cases e
  have hs' : s.size ≤ 9223372036854775807 := by simpa [maxLen] using hs
  have hal : Below w.heap.size w (w.alloc (.cells #[.slice A0 x.entries.length c0, .slice A1 x.endings.length c1, .slice A2 x.clitics.length c2, .string s] 40)) := (Below.refl _ _).alloc (Nat.le_refl _) _
  clear hs
  go_enter Tryd.func20, Tryd.ntmps20
  go_wp2_with fail
  refine (HB.out _ hal).mono ?_
  rintro e1 w1 ⟨rfl, hb1⟩
  have hX := (hb1.block w.heap.size (by simp)).trans (heap_alloc_new _ _)
  have x3 : w1.cell? ⟨w.heap.size, 3, none⟩ = some (.string s) := by simp [World.cell?, hX]
  have HB1 := Lib.hid (hal.trans (hb1.mono hal.size))
  clear hb1 hX hal
  cases hb : Lx.largeV x
  · by_cases h0 : (100 : Int) < (s.size : Int)
    · have HV : Hid (Lx.farV x s = true) := Lib.hid (by unfold Lx.farV; rw [hb]; simp; omega)
      clear hb
      go_wp2_with fail
      go_ret
      exact ⟨ret_bool HV.out.symm, HB1.out⟩
    · have HV : Hid (Lx.farV x s = false) := Lib.hid (by unfold Lx.farV; rw [hb]; simp; omega)
      clear hb
      go_wp2_with fail
      go_ret
      exact ⟨ret_bool (by rw [HV.out]; simp <;> omega), HB1.out⟩
  · have HV : Hid (Lx.farV x s = true) := Lib.hid (by unfold Lx.farV; rw [hb]; simp)
    clear hb
    go_wp2_with fail
    go_ret
    exact ⟨ret_bool HV.out.symm, HB1.out⟩
end Go.Proofs.YtpmfjndbckblfaaDoor
namespace Lx
def nn : ByteArray := ⟨#[110, 110]⟩
def knownL : Lexicon := ⟨[⟨⟨#[110, 102, 114]⟩, 1, ⟨#[103, 111, 111, 100]⟩, 2⟩, ⟨⟨#[110]⟩, 2, ⟨#[]⟩, 1⟩], [⟨1, ⟨#[116]⟩, ⟨#[102, 101, 109]⟩, 1⟩], [⟨⟨#[102]⟩, ⟨#[104, 105, 115]⟩, 1⟩, ⟨⟨#[114]⟩, ⟨#[116, 111]⟩, 0⟩]⟩
def atsL (i : Nat) : List Match := matchesV knownL (nn.extract i nn.size)
def put0 (l : List Tail) (t : Tail) : List Tail := match l with
  | [] => [t]
  | _ => []
theorem put0_mem (l : List Tail) (t y : Tail) (h : y ∈ put0 l t) : y = t ∨ y ∈ l := by
  cases l with
  | nil => simp [put0] at h; exact .inl h
  | cons a r => simp [put0] at h
theorem put0_len (l : List Tail) (t : Tail) : (put0 l t).length ≤ 1 := by
  cases l <;> simp [put0]
theorem ats_len : ∀ i, i < 2 → (atsL i).length = 1 := by decide +kernel
theorem tab0_len (x : Lexicon) (ats : Nat → List Match) (n : Nat) : ∀ k j, (tabT x put0 ats n k j).length ≤ 1 := by
  intro k
  induction k with
  | zero => intro j; simp only [tabT]; split <;> simp
  | succ k ih =>
    intro j
    simp only [tabT]
    split
    · refine foldl_inv (P := fun l : List Tail => l.length ≤ 1) _ [] (by simp) ?_
      intro l m hl _
      exact foldl_inv (P := fun l : List Tail => l.length ≤ 1) _ l hl (fun l' nx _ _ => put0_len _ _)
    · exact ih j
theorem occ0 {l : List Tail} {t : Tail} (h : Occ knownL put0 atsL 2 l t) : l = [] := by
  obtain ⟨k, a, b, m, nx, hk, ha, hb, _, rfl⟩ := h.ex
  have h1 := (List.getElem?_eq_some_iff.1 ha).1
  have h2 := (List.getElem?_eq_some_iff.1 hb).1
  have h3 := ats_len (2 - (k + 1)) (by omega)
  have h4 := tab0_len knownL atsL 2 k (2 - (k + 1) + m.long)
  obtain rfl : a = 0 := by omega
  obtain rfl : b = 0 := by omega
  simp [addNexts, addMs]
theorem cuts0_len : (cutsOf (tabT knownL put0 atsL 2 2 0)).length = 1 := by decide +kernel
theorem cuts0_forms : (cutsOf (tabT knownL put0 atsL 2 2 0)).map (fun c => (c.1.length, c.2)) = [(2, 2)] := by decide +kernel
theorem check0 : checkV knownL = 0 := by decide +kernel
theorem sounds0 : soundsB nn 64 = true := by decide +kernel
theorem form0 : formV knownL ⟨0, 0, [0]⟩ = 0 := by decide +kernel
theorem gloss0 : glossR knownL ⟨0, 0, [0]⟩ = ⟨#[110, 102, 114, 47, 49, 47, 103, 111, 111, 100, 45, 102, 101, 109, 61, 104, 105, 115]⟩ := by decide +kernel
end Lx
namespace Go.Proofs.YtpmfjndbckblfaaDoor
open Go.RowKit

theorem known_eq : Lx.known = _root_.Lx.knownL := rfl
theorem speech0 : Lx.speechV _root_.Lx.knownL _root_.Lx.nn = 0 := by
  unfold Lx.speechV
  rw [_root_.Lx.check0, _root_.Lx.sounds0]
  rfl
theorem Cuts_works (vx : Value) (w : World) (hr : RdL w w.heap.size vx _root_.Lx.knownL) :
    Calls Tryd.prog 21 #[vx, .string ⟨#[110, 110]⟩, .int .i64 64] w (RetVI w (fun w' v => RdG KCut w' (fun b => b < w'.heap.size) v (_root_.Lx.cutsOf (_root_.Lx.tabT _root_.Lx.knownL _root_.Lx.put0 _root_.Lx.atsL 2 2 0))) 0) :=
  Cuts_any _root_.Lx.put0 _root_.Lx.knownL _root_.Lx.nn 64 vx w hr speech0 (by decide) (by decide) _root_.Lx.put0_mem (fun l t => Nat.le_trans (_root_.Lx.put0_len l t) (by decide)) (fun tv l t _ ho => by
    have h0 := _root_.Lx.occ0 ho
    subst h0
    exact add_first (by decide) (by decide) rfl)

set_option maxRecDepth 100000 in
set_option maxHeartbeats 4000000 in
theorem works_any (w : World) : Calls Tryd.prog 12 #[] w (RetBB true w) := by
  go_enter Tryd.func12, Tryd.ntmps12
  go_wp2_with fail
  refine (known_any _).mono ?_
  rintro e1 w1 ⟨v1, rfl, hk1, hb1⟩
  have HB1 := Lib.hid hb1
  have HK1 := Lib.hid hk1
  obtain ⟨⟨v10, v11, v12, rfl, -⟩, -, -, -⟩ := hk1
  clear hb1
  go_wp2_with fail
  have hal : Below w1.heap.size w1 (w1.alloc (.cells #[.int .i64 0] 3)) := (Below.refl _ _).alloc (Nat.le_refl _) _
  have hfr : RdF (w1.alloc (.cells #[.int .i64 0] 3)) (w1.heap.size + 1) (.agg #[.int .i64 0, .int .i64 0, .slice (some ⟨w1.heap.size, 0, none⟩) 1 1]) ⟨0, 0, [0]⟩ :=
    ⟨⟨_, rfl, rds_block (xs := [(0 : Int)]) len_int (heap_alloc_new _ _) rfl (by omega) (Nat.le_refl 1) (by decide)⟩⟩
  refine (Gloss_any _ _ _root_.Lx.knownL ⟨0, 0, [0]⟩ _ ((HK1.out.below hal).more hal.size) (by simpa using hfr)).mono ?_
  rintro e2 w2 ⟨rfl, hb2⟩
  rw [_root_.Lx.gloss0, _root_.Lx.form0]
  have HB2 := Lib.hid (HB1.out.trans ((hal.trans (hb2.mono hal.size)).mono HB1.out.size))
  clear hal hfr hb2
  go_wp2_with fail
  refine (known_any _).mono ?_
  rintro e3 w3 ⟨v3, rfl, hk3, hb3⟩
  have HB3 := Lib.hid (HB2.out.trans (hb3.mono HB2.out.size))
  have HK3 := Lib.hid hk3
  obtain ⟨⟨v30, v31, v32, rfl, -⟩, -, -, -⟩ := hk3
  clear hb3
  go_wp2_with fail
  refine (Cuts_works _ _ HK3.out).mono ?_
  rintro e4 w4 ⟨v4, rfl, hq, hb4⟩
  have HB4 := Lib.hid (HB3.out.trans (hb4.mono HB3.out.size))
  clear hb4
  obtain ⟨c, hc, hc1, hc2⟩ : ∃ c, _root_.Lx.cutsOf (_root_.Lx.tabT _root_.Lx.knownL _root_.Lx.put0 _root_.Lx.atsL 2 2 0) = [c] ∧ c.1.length = 2 ∧ c.2 = 2 := by
    have h1 := _root_.Lx.cuts0_forms
    generalize _root_.Lx.cutsOf (_root_.Lx.tabT _root_.Lx.knownL _root_.Lx.put0 _root_.Lx.atsL 2 2 0) = l at h1
    cases l with
    | nil => cases h1
    | cons c r =>
      cases r with
      | nil => simp at h1; exact ⟨c, rfl, h1.1, h1.2⟩
      | cons _ _ => simp at h1
  rw [hc] at hq
  obtain ⟨A4, c4, rfl⟩ := hq.form
  obtain ⟨b4, o4, rfl, hbl, hat⟩ := hq.at (by simp)
  obtain ⟨cs, ⟨vf, rfl, hrf⟩, hcell⟩ := hat 0 c rfl
  obtain ⟨Af, cf, rfl⟩ := hrf.form
  have g0 : w4.cell? ⟨b4, o4, none⟩ = some (.slice Af c.1.length cf) := by have := hcell 0 _ rfl; simpa [KCut] using this
  have g1 : w4.cell? ⟨b4, o4 + 1, none⟩ = some (.int .i64 c.2) := by have := hcell 1 _ rfl; simpa [KCut] using this
  rw [hc1] at g0
  rw [hc2] at g1
  clear hcell hat hrf hq hc hc1 hc2
  go_wp2_with fail
  go_ret
  exact ⟨rfl, HB4.out⟩
end Go.Proofs.YtpmfjndbckblfaaDoor
