/- The example of the laws: what is reckoned. works: the look at an example. -/
import Derived.Test.YtpmnpnlfgfleeaaGreatDoorMgCutsPlain
import Derived.Test.YtpmnpnlfgfleeaaGreatDoorMgFitsPlain
import Derived.Test.YtpmnpnlfgfleeaaGreatDoorMgCuts
import Derived.Test.YtpmnpnlfgfleeaaGreatDoorMgBig
namespace Lx
def nn : ByteArray := ⟨#[110, 110]⟩
def knownL : Lexicon := ⟨[⟨⟨#[110, 102, 114]⟩, 1, ⟨#[103, 111, 111, 100]⟩, 2⟩, ⟨⟨#[110]⟩, 2, ⟨#[]⟩, 1⟩], [⟨1, ⟨#[116]⟩, ⟨#[102, 101, 109]⟩, 1⟩], [⟨⟨#[102]⟩, ⟨#[104, 105, 115]⟩, 1⟩, ⟨⟨#[114]⟩, ⟨#[116, 111]⟩, 0⟩]⟩
def atsL (i : Nat) : List Match := matchesV knownL (nn.extract i nn.size)
def put0 (l : List Tail) (t : Tail) : List Tail := match l with
  | [] => [t]
  | _ => []
theorem put0_mem (l : List Tail) (t y : Tail) (h : y ∈ put0 l t) : y = t ∨ y ∈ l := by
  cases l with
  | nil => simp [put0] at h; exact .inl h
  | cons a r => simp [put0] at h
theorem put0_len (l : List Tail) (t : Tail) : (put0 l t).length ≤ 1 := by
  cases l <;> simp [put0]
theorem ats_len : ∀ i, i < 2 → (atsL i).length = 1 := by decide +kernel
theorem tab0_len (x : Lexicon) (ats : Nat → List Match) (n : Nat) : ∀ k j, (tabT x put0 ats n k j).length ≤ 1 := by
  intro k
  induction k with
  | zero => intro j; simp only [tabT]; split <;> simp
  | succ k ih =>
    intro j
    simp only [tabT]
    split
    · refine foldl_inv (P := fun l : List Tail => l.length ≤ 1) _ [] (by simp) ?_
      intro l m hl _
      exact foldl_inv (P := fun l : List Tail => l.length ≤ 1) _ l hl (fun l' nx _ _ => put0_len _ _)
    · exact ih j
theorem occ0 {l : List Tail} {t : Tail} (h : Occ knownL put0 atsL 2 l t) : l = [] := by
  obtain ⟨k, a, b, m, nx, hk, ha, hb, _, rfl⟩ := h.ex
  have h1 := (List.getElem?_eq_some_iff.1 ha).1
  have h2 := (List.getElem?_eq_some_iff.1 hb).1
  have h3 := ats_len (2 - (k + 1)) (by omega)
  have h4 := tab0_len knownL atsL 2 k (2 - (k + 1) + m.long)
  obtain rfl : a = 0 := by omega
  obtain rfl : b = 0 := by omega
  simp [addNexts, addMs]
theorem cuts0_len : (cutsOf (tabT knownL put0 atsL 2 2 0)).length = 1 := by decide +kernel
theorem cuts0_forms : (cutsOf (tabT knownL put0 atsL 2 2 0)).map (fun c => (c.1.length, c.2)) = [(2, 2)] := by decide +kernel
theorem check0 : checkV knownL = 0 := by decide +kernel
theorem sounds0 : soundsB nn 64 = true := by decide +kernel
theorem form0 : formV knownL ⟨0, 0, [0]⟩ = 0 := by decide +kernel
theorem gloss0 : glossR knownL ⟨0, 0, [0]⟩ = ⟨#[110, 102, 114, 47, 49, 47, 103, 111, 111, 100, 45, 102, 101, 109, 61, 104, 105, 115]⟩ := by decide +kernel
end Lx
namespace Go.Proofs.YtpmnpnlfgfleeaaGreatDoor
open Go.RowKit

theorem known_eq : Lx.known = _root_.Lx.knownL := rfl
theorem speech0 : Lx.speechV _root_.Lx.knownL _root_.Lx.nn = 0 := by
  unfold Lx.speechV
  rw [_root_.Lx.check0, _root_.Lx.sounds0]
  rfl
theorem Cuts_works (vx : Value) (w : World) (hr : RdL w w.heap.size vx _root_.Lx.knownL) :
    Calls Tryz.prog 28 #[vx, .string ⟨#[110, 110]⟩, .int .i64 64] w (RetVI w (fun w' v => RdG KCut w' (fun b => b < w'.heap.size) v (_root_.Lx.cutsOf (_root_.Lx.tabT _root_.Lx.knownL _root_.Lx.put0 _root_.Lx.atsL 2 2 0))) 0) :=
  Cuts_any _root_.Lx.put0 _root_.Lx.knownL _root_.Lx.nn 64 vx w hr speech0 (by decide) (by decide) _root_.Lx.put0_mem (fun l t => Nat.le_trans (_root_.Lx.put0_len l t) (by decide)) (fun tv l t _ ho => by
    have h0 := _root_.Lx.occ0 ho
    subst h0
    exact add_first (by decide) (by decide) rfl)

set_option maxRecDepth 100000 in
set_option maxHeartbeats 4000000 in
theorem works_any (w : World) : Calls Tryz.prog 8 #[] w (RetBB true w) := by
  go_enter Tryz.func8, Tryz.ntmps8
  go_wp2_with fail
  refine (known_any _).mono ?_
  rintro e1 w1 ⟨v1, rfl, hk1, hb1⟩
  have HB1 := Lib.hid hb1
  have HK1 := Lib.hid hk1
  obtain ⟨⟨v10, v11, v12, rfl, -⟩, -, -, -⟩ := hk1
  clear hb1
  go_wp2_with fail
  have hal : Below w1.heap.size w1 (w1.alloc (.cells #[.int .i64 0] 3)) := (Below.refl _ _).alloc (Nat.le_refl _) _
  have hfr : RdF (w1.alloc (.cells #[.int .i64 0] 3)) (w1.heap.size + 1) (.agg #[.int .i64 0, .int .i64 0, .slice (some ⟨w1.heap.size, 0, none⟩) 1 1]) ⟨0, 0, [0]⟩ :=
    ⟨⟨_, rfl, rds_block (xs := [(0 : Int)]) len_int (heap_alloc_new _ _) rfl (by omega) (Nat.le_refl 1) (by decide)⟩⟩
  refine (Gloss_any _ _ _root_.Lx.knownL ⟨0, 0, [0]⟩ _ ((HK1.out.below hal).more hal.size) (by simpa using hfr)).mono ?_
  rintro e2 w2 ⟨rfl, hb2⟩
  rw [_root_.Lx.gloss0, _root_.Lx.form0]
  have HB2 := Lib.hid (HB1.out.trans ((hal.trans (hb2.mono hal.size)).mono HB1.out.size))
  clear hal hfr hb2
  go_wp2_with fail
  refine (known_any _).mono ?_
  rintro e3 w3 ⟨v3, rfl, hk3, hb3⟩
  have HB3 := Lib.hid (HB2.out.trans (hb3.mono HB2.out.size))
  have HK3 := Lib.hid hk3
  obtain ⟨⟨v30, v31, v32, rfl, -⟩, -, -, -⟩ := hk3
  clear hb3
  go_wp2_with fail
  refine (Cuts_works _ _ HK3.out).mono ?_
  rintro e4 w4 ⟨v4, rfl, hq, hb4⟩
  have HB4 := Lib.hid (HB3.out.trans (hb4.mono HB3.out.size))
  clear hb4
  obtain ⟨c, hc, hc1, hc2⟩ : ∃ c, _root_.Lx.cutsOf (_root_.Lx.tabT _root_.Lx.knownL _root_.Lx.put0 _root_.Lx.atsL 2 2 0) = [c] ∧ c.1.length = 2 ∧ c.2 = 2 := by
    have h1 := _root_.Lx.cuts0_forms
    generalize _root_.Lx.cutsOf (_root_.Lx.tabT _root_.Lx.knownL _root_.Lx.put0 _root_.Lx.atsL 2 2 0) = l at h1
    cases l with
    | nil => cases h1
    | cons c r =>
      cases r with
      | nil => simp at h1; exact ⟨c, rfl, h1.1, h1.2⟩
      | cons _ _ => simp at h1
  rw [hc] at hq
  obtain ⟨A4, c4, rfl⟩ := hq.form
  obtain ⟨b4, o4, rfl, hbl, hat⟩ := hq.at (by simp)
  obtain ⟨cs, ⟨vf, rfl, hrf⟩, hcell⟩ := hat 0 c rfl
  obtain ⟨Af, cf, rfl⟩ := hrf.form
  have g0 : w4.cell? ⟨b4, o4, none⟩ = some (.slice Af c.1.length cf) := by have := hcell 0 _ rfl; simpa [KCut] using this
  have g1 : w4.cell? ⟨b4, o4 + 1, none⟩ = some (.int .i64 c.2) := by have := hcell 1 _ rfl; simpa [KCut] using this
  rw [hc1] at g0
  rw [hc2] at g1
  clear hcell hat hrf hq hc hc1 hc2
  go_wp2_with fail
  go_ret
  exact ⟨rfl, HB4.out⟩
end Go.Proofs.YtpmnpnlfgfleeaaGreatDoor
