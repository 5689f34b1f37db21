/- lexicon.Cuts, for whatever 'put' that 'add' does. -/
import Derived.Test.YtpmnpnlfgfleeaaGreatDoorMgFitsPlain
import Derived.Test.YtpmnpnlfgfleeaaGreatDoorMgRowKit
import Derived.Laws.EntriesVeiled
import Derived.Test.YtpmnpnlfgfleeaaGreatDoorMgRCheckForm
namespace Go.Proofs.YtpmnpnlfgfleeaaGreatDoor
open Go.RowKit

/-- a table as a value -/
def TabV (tv : Value) : Prop := ∃ a0 a1 a2 a3 a4, tv = .agg #[a0, a1, a2, a3, a4] ∧ ∀ u ∈ [a0, a1, a2, a3, a4], u.oneCell' = true
def Lx.ats (x : Lx.Lexicon) (s : ByteArray) (i : Nat) : List Lx.Match := Lx.matchesV x (s.extract i s.size)
theorem Lx.beginV_at (x : Lx.Lexicon) (s : ByteArray) {i : Nat} (h : i < s.size) : (Lx.beginV x s)[i]? = some (Lx.ats x s i) := by
  simp [Lx.beginV, Lx.beginTo, h, Lx.ats]
def RetVI (w : World) (Q : World → Value → Prop) (n : Int) (e : Ending) (w' : World) : Prop := ∃ v, e = .returned (.tuple #[v, .int .i64 n]) ∧ Q w' v ∧ Below w.heap.size w w'

set_option maxRecDepth 100000 in
set_option maxHeartbeats 4000000 in
theorem Cuts_err (x : Lx.Lexicon) (s : ByteArray) (most : Int) (hs : s.size ≤ maxLen) (vx : Value) (w : World) (hr : RdL w w.heap.size vx x) (hz : Lx.speechV x s ≠ 0) :
    Calls Tryz.prog 28 #[vx, .string s, .int .i64 most] w (RetVI w (fun _ v => v = .slice none 0 0) (Lx.speechV x s)) := by
  have HSP : Hid (∀ (W : World), Below w.heap.size w W → Calls Tryz.prog 41 #[vx, .string s] W (RetIB (Lx.speechV x s) W)) := Lib.hid fun W hW => speech_any vx x s W ((hr.below hW).more hW.size) hs
  obtain ⟨⟨v0, v1, v2, rfl, ⟨A0, c0, rfl, -⟩, ⟨A1, c1, rfl, -⟩, ⟨A2, c2, rfl, -⟩⟩, -, -, -⟩ := hr
  generalize hcv : Lx.speechV x s = cv at *
  have hq : (cv == 0) = false := by simp [hz]
  have hq' : (cv != 0) = true := by simp [hz]
  clear hcv hz
  go_enter Tryz.func28, Tryz.ntmps28
  go_wp2_with fail
  refine (HSP.out _ ((Below.refl _ _).alloc (Nat.le_refl _) _)).mono ?_
  rintro e1 w1 ⟨rfl, hb1⟩
  have HB1 := Lib.hid (((Below.refl w.heap.size w).alloc (Nat.le_refl _) (.cells #[.slice A0 x.entries.length c0, .slice A1 x.endings.length c1, .slice A2 x.clitics.length c2] 26)).trans (hb1.mono (by simp)))
  clear hb1
  go_wp2_with fail
  go_ret2
  exact ⟨_, rfl, rfl, HB1.out⟩

set_option maxRecDepth 100000 in
set_option maxHeartbeats 4000000 in
theorem Cuts_arg (x : Lx.Lexicon) (s : ByteArray) (most : Int) (hs : s.size ≤ maxLen) (vx : Value) (w : World) (hr : RdL w w.heap.size vx x) (hz : Lx.speechV x s = 0) (hm : Lx.withinB most 1 64 = false) :
    Calls Tryz.prog 28 #[vx, .string s, .int .i64 most] w (RetVI w (fun _ v => v = .slice none 0 0) 1) := by
  have HSP : Hid (∀ (W : World), Below w.heap.size w W → Calls Tryz.prog 41 #[vx, .string s] W (RetIB (Lx.speechV x s) W)) := Lib.hid fun W hW => speech_any vx x s W ((hr.below hW).more hW.size) hs
  obtain ⟨⟨v0, v1, v2, rfl, ⟨A0, c0, rfl, -⟩, ⟨A1, c1, rfl, -⟩, ⟨A2, c2, rfl, -⟩⟩, -, -, -⟩ := hr
  have HZ := Lib.hid hz
  have HM := Lib.hid hm
  clear hz hm
  go_enter Tryz.func28, Tryz.ntmps28
  go_wp2_with fail
  refine (HSP.out _ ((Below.refl _ _).alloc (Nat.le_refl _) _)).mono ?_
  rw [HZ.out]
  rintro e1 w1 ⟨rfl, hb1⟩
  have HB1 := Lib.hid (((Below.refl w.heap.size w).alloc (Nat.le_refl _) (.cells #[.slice A0 x.entries.length c0, .slice A1 x.endings.length c1, .slice A2 x.clitics.length c2] 26)).trans (hb1.mono (by simp)))
  clear hb1
  go_wp2_with fail
  refine (within_any most 1 64 _).mono ?_
  rw [HM.out]
  rintro e2 w2 ⟨rfl, rfl⟩
  go_wp2_with fail
  go_ret2
  exact ⟨_, rfl, rfl, HB1.out⟩
theorem info_sTail : (Tryz.prog.info? 110).map (fun i => (i.zero, i.size, i.bytes)) = some (some (.slice none 0 0), 1, 24) := by kernel_rfl
theorem make_rows (n : Nat) (hn : n ≤ 1000) : ∃ arr0 : Array Value, arr0.size = n + 1 ∧ (∀ j, j ≤ n → arr0[j]? = some (.slice none 0 0)) ∧
    ∀ W : World, (Instr.makeSlice 109 (.int .i64 ((n : Int) + 1)) (.int .i64 ((n : Int) + 1))).run Tryz.prog W = .ok (.slice (some ⟨W.heap.size, 0, none⟩) (n + 1) (n + 1)) (W.alloc (.cells arr0 110)) := by
  obtain ⟨i0, hi0, hz0, hs0, hb0⟩ := info_parts info_sTail
  refine ⟨madeCells #[.slice none 0 0] (n + 1), size_madeCells _ _, fun j hj => ?_, fun W => ?_⟩
  · rw [← Array.getElem?_toList, toList_madeCells_one]
    rw [List.getElem?_replicate_of_lt (by omega)]
  · have := run_make (P := Tryz.prog) W 109 110 i0 _ Tryz.underlying109 hi0 hz0 .i64 .i64 ((n : Int) + 1) ((n : Int) + 1) (by omega) (by omega) (by rw [hb0]; omega) (by omega)
    rw [this, hs0, show ((n : Int) + 1).toNat = n + 1 by omega, Nat.mul_one]
    rfl
theorem ownT_at {w : World} {base : Nat} {v : Value} {ls : List (List Lx.Match)} (h : OwnT w base v ls) (h0 : 0 < ls.length) :
    ∃ g c, v = .slice (some ⟨g, 0, none⟩) ls.length c ∧ g < w.heap.size ∧ ∀ (i : Nat) (ms : List Lx.Match), ls[i]? = some ms → ∃ u, w.cell? ⟨g, i, none⟩ = some u ∧ RdMs w (fun b => b < w.heap.size) u ms := by
  obtain ⟨vs, h1, h2⟩ := h
  rcases id h1.2 with ⟨_, e⟩ | ⟨g, cap, cur, rfl, hg, hh, hle, hm, hs, ht⟩
  · omega
  · refine ⟨g, cap, rfl, (h1.lt g rfl).2, fun i ms hi => ?_⟩
    obtain ⟨u, e1, e2⟩ := h2.at hi
    have := h1.cells rfl i u e1
    rw [addr_add, Nat.zero_add] at this
    exact ⟨u, this, e2.keep fun b hb => ⟨hb.1, rfl⟩⟩
/-- a list that is being filled: in the box R, its row behind it -/
structure InL (wr wq : World) (S0 R most : Nat) (fv : Value) (l : List Lx.Tail) : Prop where
  bel : Below R wr wq
  siz : R + 1 ≤ wq.heap.size
  ex : ∃ v ps, wq.heap[R]? = some (.cells #[v, .int .i64 most, fv] 113 (0, 0)) ∧ wq.ownsRow (R + 1) 114 1 v ps.length (ps.flatMap encP) ∧ RdTls wq S0 ps l
theorem InL.kept {wr wq wz : World} {S0 R most : Nat} {fv : Value} {l : List Lx.Tail} (h : InL wr wq S0 R most fv l) (hb : Below wq.heap.size wq wz) (hS : S0 ≤ wq.heap.size) : InL wr wz S0 R most fv l := by
  obtain ⟨h1, h2, v, ps, h3, h4, h5⟩ := h
  refine ⟨h1.trans (hb.mono (by omega)), by have := hb.size; omega, v, ps, (hb.block _ (by omega)).trans h3, h4.kept (grown_of_below (row := none) hb) ?_, h5.keep (.of_below hb hS)⟩
  rcases h4.2 with ⟨e, _⟩ | ⟨g, cap, cur, e, _⟩
  · rw [e]; exact .inl rfl
  · rw [e]; exact .inr (by simp [Value.ownBlock])
/-- a table of tails in the row arr, which lies at block T -/
def RdArr (w : World) (S0 T : Nat) (arr : Array Value) (n : Nat) (tab : Nat → List Lx.Tail) : Prop :=
  ∀ j, j ≤ n → ∃ sl, arr[j]? = some sl ∧ RdTR w (fun b => b < w.heap.size ∧ T < b) S0 sl (tab j)
theorem RdArr.keep {w w' : World} {S0 T : Nat} {arr : Array Value} {n : Nat} {tab : Nat → List Lx.Tail} (h : RdArr w S0 T arr n tab) (hk : ∀ b, b < w.heap.size → T < b → w'.heap[b]? = w.heap[b]?) (h2 : Kept2 S0 w w') : RdArr w' S0 T arr n tab := by
  intro j hj
  obtain ⟨sl, h1, h3⟩ := h j hj
  exact ⟨sl, h1, h3.keep (fun b hb => ⟨⟨Nat.lt_of_lt_of_le hb.1 h2.size, hb.2⟩, hk b hb.1 hb.2⟩) h2⟩

set_option maxRecDepth 100000 in
set_option maxHeartbeats 4000000 in
theorem Cuts_any (put : List Lx.Tail → Lx.Tail → List Lx.Tail) (x : Lx.Lexicon) (s : ByteArray) (most : Nat) (vx : Value) (w : World) (hr : RdL w w.heap.size vx x) (hz : Lx.speechV x s = 0) (hm1 : 1 ≤ most) (hm2 : most ≤ 64)
    (hmem : ∀ l t y, y ∈ put l t → y = t ∨ y ∈ l) (hlen : ∀ l t, (put l t).length ≤ 64) (hadd : ∀ tv l t, TabV tv → Lx.Occ x put (Lx.ats x s) s.size l t → AddSays put most tv l t) :
    Calls Tryz.prog 28 #[vx, .string s, .int .i64 most] w (RetVI w (fun w' v => RdG KCut w' (fun b => b < w'.heap.size) v (Lx.cutsOf (Lx.tabT x put (Lx.ats x s) s.size s.size 0))) 0) := by
  have hsp : Lx.checkV x = 0 ∧ Lx.soundsB s 64 = true := by
    unfold Lx.speechV at hz
    split at hz
    · contradiction
    · rename_i h1
      split at hz
      · cases hz
      · rename_i h2; exact ⟨Classical.not_not.1 h1, by simpa using h2⟩
  obtain ⟨hchk, hsb⟩ := hsp
  have hs1 : 1 ≤ s.size ∧ s.size ≤ 64 ∧ Lx.allL s = true := by
    simp [Lx.soundsB] at hsb; exact ⟨hsb.1.1, by have := hsb.1.2; omega, hsb.2⟩
  obtain ⟨hs1, hs2, hal⟩ := hs1
  have HSP : Hid (∀ (W : World), Below w.heap.size w W → Calls Tryz.prog 41 #[vx, .string s] W (RetIB (Lx.speechV x s) W)) := Lib.hid fun W hW => speech_any vx x s W ((hr.below hW).more hW.size) (by simp only [maxLen]; omega)
  have HBG : Hid (∀ (W : World), Below w.heap.size w W → Calls Tryz.prog 46 #[vx, .string s] W (fun e w' => ∃ a0 a1 a2 v, vx = .agg #[a0, a1, a2] ∧ e = .returned (.agg #[a0, a1, a2, v, .int .i64 s.size]) ∧ OwnT w' W.heap.size v (Lx.beginV x s) ∧ Below W.heap.size W w')) :=
    Lib.hid fun W hW => begin_any x s hchk hs2 hal vx W ((hr.below hW).more hW.size)
  have HR := Lib.hid hr
  have HZ := Lib.hid hz
  have HCHK := Lib.hid hchk
  have HATF : Hid (∀ j m, m ∈ Lx.ats x s j → 1 ≤ m.long ∧ m.clitics.length ≤ 3) := Lib.hid fun j m hm => ⟨(Lx.matchesV_fits hchk m hm).pos, (Lx.matchesV_fits hchk m hm).form.few⟩
  have HADD := Lib.hid hadd
  have HLEN := Lib.hid hlen
  have HMEM := Lib.hid hmem
  obtain ⟨⟨v0, v1, v2, rfl, ⟨A0, c0, rfl, -⟩, ⟨A1, c1, rfl, -⟩, ⟨A2, c2, rfl, -⟩⟩, -, -, -⟩ := hr
  have hs64 : s.size ≤ 9223372036854775807 := by omega
  have hmw : Lx.withinB (most : Int) 1 64 = true := by simp [Lx.withinB]; omega
  have HMW := Lib.hid hmw
  clear hz hchk hsb hal hadd hlen hmem hmw
  go_enter Tryz.func28, Tryz.ntmps28
  go_wp2_with fail
  refine (HSP.out _ ((Below.refl _ _).alloc (Nat.le_refl _) _)).mono ?_
  rw [HZ.out]
  rintro e1 w1 ⟨rfl, hb1⟩
  have hX1 : w1.heap[w.heap.size]? = some (.cells #[.slice A0 x.entries.length c0, .slice A1 x.endings.length c1, .slice A2 x.clitics.length c2] 26 (0, 0)) := (hb1.block _ (by simp)).trans (heap_alloc_new _ _)
  have x0 : w1.cell? ⟨w.heap.size, 0, none⟩ = some (.slice A0 x.entries.length c0) := by simp [World.cell?, hX1]
  have x1 : w1.cell? ⟨w.heap.size, 1, none⟩ = some (.slice A1 x.endings.length c1) := by simp [World.cell?, hX1]
  have x2 : w1.cell? ⟨w.heap.size, 2, none⟩ = some (.slice A2 x.clitics.length c2) := by simp [World.cell?, hX1]
  have HB1 := Lib.hid (((Below.refl w.heap.size w).alloc (Nat.le_refl _) (.cells #[.slice A0 x.entries.length c0, .slice A1 x.endings.length c1, .slice A2 x.clitics.length c2] 26)).trans (hb1.mono (by simp)))
  have HX1 := Lib.hid hX1
  clear hb1 hX1
  go_wp2_with fail
  refine (within_any most 1 64 _).mono ?_
  rw [HMW.out]
  rintro e2 w2 ⟨rfl, rfl⟩
  go_wp2_with fail
  refine (HBG.out _ HB1.out).mono ?_
  rintro e3 w3 ⟨a0, a1, a2, vt, hve, rfl, hot, hb3⟩
  obtain ⟨rfl, rfl, rfl⟩ : Value.slice A0 x.entries.length c0 = a0 ∧ Value.slice A1 x.endings.length c1 = a1 ∧ Value.slice A2 x.clitics.length c2 = a2 := by simpa using hve
  have hbl : (Lx.beginV x s).length = s.size := Lx.beginTo_len _ _ _
  obtain ⟨gt, ct, rfl, hgl, hgat⟩ := ownT_at hot (by omega)
  rw [hbl]
  have HAT : Hid (∀ i, i < s.size → ∃ u, w3.cell? ⟨gt, i, none⟩ = some u ∧ RdMs w3 (fun b => b < w3.heap.size) u (Lx.ats x s i)) := Lib.hid fun i hi => hgat i _ (Lx.beginV_at x s hi)
  have hsl : w.heap.size < w1.heap.size := (Array.getElem?_eq_some_iff.1 HX1.out).1
  have HX3 := Lib.hid ((hb3.block _ hsl).trans HX1.out)
  have HB3 := Lib.hid (HB1.out.trans (hb3.mono (by omega)))
  have hs3 : w1.heap.size ≤ w3.heap.size := hb3.size
  clear hot hgat hb3 hve x0 x1 x2 HX1 HB1 HBG HSP hbl
  obtain ⟨arr0, hsz0, harr0, hmk⟩ := make_rows s.size (by omega)
  have hc0 := harr0 s.size (by omega)
  go_wp2_with fail
  obtain ⟨S0, hS0⟩ : ∃ S0, S0 = w3.heap.size := ⟨_, rfl⟩
  have hfs : ∀ (A B C : Obj), (((w3.alloc A).alloc B).alloc C).heap[S0]? = some A ∧ (((w3.alloc A).alloc B).alloc C).heap[S0 + 1]? = some B ∧ (((w3.alloc A).alloc B).alloc C).heap[S0 + 2]? = some C ∧ (((w3.alloc A).alloc B).alloc C).heap.size = S0 + 3 ∧ Below S0 w3 (((w3.alloc A).alloc B).alloc C) := by
    intro A B C
    rw [hS0]
    exact ⟨(heap3 w3 A B C).1, (heap3 w3 A B C).2.1, (heap3 w3 A B C).2.2.1, (heap3 w3 A B C).2.2.2, below3 w3 A B C⟩
  have HFS := Lib.hid hfs
  clear hfs hmk hc0
  rw [← hS0]
  have hgS : gt < S0 := by rw [hS0]; exact hgl
  have hwS : w.heap.size < S0 := by rw [hS0]; omega
  have HS0 := Lib.hid hS0
  rw [← hS0] at HAT
  clear hS0 hgl
  go_loopg [11] s.size (fun g i wr => ∃ (k : Nat) (p : Int) (arr : Array Value), k ≤ s.size ∧ g = s.size - k ∧ p = (s.size : Int) - 1 - k ∧ i = .int .i64 p ∧ Below S0 w3 wr ∧ S0 + 3 ≤ wr.heap.size ∧
    wr.heap[S0]? = some (.cells #[.slice A0 x.entries.length c0, .slice A1 x.endings.length c1, .slice A2 x.clitics.length c2, .slice (some ⟨gt, 0, none⟩) s.size ct, .int .i64 s.size] 83 (0, 0)) ∧
    wr.heap[S0 + 1]? = some (.cells arr 110 (0, 0)) ∧ arr.size = s.size + 1 ∧ RdArr wr S0 (S0 + 1) arr s.size (Lx.tabT x put (Lx.ats x s) s.size k))
  case atStart =>
    obtain ⟨q0, q1, q2, q3, q4⟩ := HFS.out (.cells #[.slice A0 x.entries.length c0, .slice A1 x.endings.length c1, .slice A2 x.clitics.length c2, .slice (some ⟨gt, 0, none⟩) s.size ct, .int .i64 s.size] 83)
      (.cells (arr0.setIfInBounds s.size (.slice (some ⟨S0 + 1 + 1, 0, none⟩) 1 1)) 110) (.cells #[.pointer none] 114)
    refine ⟨0, (s.size : Int) - 1, _, Nat.zero_le _, rfl, by omega, rfl, q4, Nat.le_of_eq q3.symm, q0, q1, by simp [hsz0], fun j hj => ?_⟩
    by_cases hjn : j = s.size
    · subst hjn
      refine ⟨_, set_same (by omega), [none], ?_, ?_⟩
      · exact rdx_block (xs := [(none : Option Addr)]) len_ptr q2 rfl ⟨by omega, by omega⟩ (Nat.le_refl 1) (by decide)
      · simp only [Lx.tabT, if_true]; exact .cons .nil .nil
    · refine ⟨_, (set_other hjn).trans (harr0 j hj), ?_⟩
      simp only [Lx.tabT, if_neg hjn]
      exact RdTR.nil _ _ _
  case round =>
    obtain ⟨k, p, arr, hk, rfl, hp, rfl, hbel, hsz, hT0, hT1, hars, harr⟩ := hrel
    have HBEL := Lib.hid hbel
    have HT0 := Lib.hid hT0
    have HT1 := Lib.hid hT1
    have HARR := Lib.hid harr
    have hS0' : S0 < wr.heap.size := by omega
    have hS1' : S0 + 1 < wr.heap.size := by omega
    by_cases hp0 : 0 ≤ p
    · obtain ⟨i, hi⟩ : ∃ i : Nat, p = (i : Int) := ⟨p.toNat, by omega⟩
      subst hi
      have HK : Hid (i = s.size - (k + 1) ∧ k < s.size) := Lib.hid ⟨by omega, by omega⟩
      have hin : i < s.size := by omega
      have hinI : (i : Int) < (s.size : Int) := by omega
      clear hp hp0
      obtain ⟨u, hu, hum⟩ := HAT.out i hin
      obtain ⟨Am, cm, rfl⟩ := hum.form
      obtain ⟨ms, hms⟩ : ∃ ms, ms = Lx.ats x s i := ⟨_, rfl⟩
      rw [← hms] at hu hum
      have HMS := Lib.hid hms
      have HUM := Lib.hid hum
      have u0 : wr.cell? ⟨gt, i, none⟩ = some (.slice Am ms.length cm) := (HBEL.out.cell (p := ⟨gt, i, none⟩) hgS).trans hu
      have t0 : wr.cell? ⟨S0, 0, none⟩ = some (.slice A0 x.entries.length c0) := by simp [World.cell?, hT0]
      have t1 : wr.cell? ⟨S0, 1, none⟩ = some (.slice A1 x.endings.length c1) := by simp [World.cell?, hT0]
      have t2 : wr.cell? ⟨S0, 2, none⟩ = some (.slice A2 x.clitics.length c2) := by simp [World.cell?, hT0]
      have t3 : wr.cell? ⟨S0, 3, none⟩ = some (.slice (some ⟨gt, 0, none⟩) s.size ct) := by simp [World.cell?, hT0]
      have t4 : wr.cell? ⟨S0, 4, none⟩ = some (.int .i64 s.size) := by simp [World.cell?, hT0]
      have hg' : gt < wr.heap.size := by omega
      have hmsl : ms.length ≤ 9223372036854775807 := by obtain ⟨_, _, e, h1, h2, _⟩ := HUM.out; cases e; omega
      clear hbel hT0 hT1 harr hms hum hu
      go_wp2_with fail
      obtain ⟨fv, hfv⟩ : ∃ fv, fv = Value.func (.func 63) #[.agg #[.slice A0 x.entries.length c0, .slice A1 x.endings.length c1, .slice A2 x.clitics.length c2, .slice (some ⟨gt, 0, none⟩) s.size ct, .int .i64 s.size]] #[] := ⟨_, rfl⟩
      rw [← hfv]
      obtain ⟨tab, htab⟩ : ∃ tab, tab = Lx.tabT x put (Lx.ats x s) s.size k := ⟨_, rfl⟩
      rw [← htab] at HARR
      have HTAB := Lib.hid htab
      have HFV := Lib.hid hfv
      have hR : wr.heap.size < wr.heap.size + 1 := by omega
      clear hfv htab t0 t1 t2 t3 t4 u0
      go_loopg [62] ms.length (fun g j wq => ∃ a : Nat, a ≤ ms.length ∧ g = ms.length - a ∧ j = .int .i64 a ∧ InL wr wq S0 wr.heap.size most fv (Lx.addMs x put tab i (ms.take a) []))
      case atStart =>
        refine ⟨0, Nat.zero_le _, rfl, rfl, (Below.refl _ _).alloc (Nat.le_refl _) _, by simp, _, [], heap_alloc_new _ _, World.ownsRow_nil _ _ _ _, ?_⟩
        simp [Lx.addMs]
        exact .nil
      case round =>
        rename World => wq
        obtain ⟨a, ha, rfl, rfl, hin0⟩ := hrel
        have HIN := Lib.hid hin0
        have hqs : wr.heap.size + 1 ≤ wq.heap.size := hin0.siz
        have HBQ : Hid (Below S0 w3 wq) := Lib.hid (HBEL.out.trans (hin0.bel.mono (by omega)))
        have HAQ : Hid (RdArr wq S0 (S0 + 1) arr s.size tab) := Lib.hid (HARR.out.keep (fun b hb _ => hin0.bel.block b hb) (.of_below hin0.bel (by omega)))
        have HT1Q := Lib.hid ((hin0.bel.block (S0 + 1) hS1').trans HT1.out)
        clear hin0
        by_cases hlt : a < ms.length
        · obtain ⟨m, hma⟩ : ∃ m, ms[a]? = some m := ⟨_, List.getElem?_eq_getElem hlt⟩
          obtain ⟨_, _, hve, hl1, hl2, hcell⟩ := HUM.out
          cases hve
          obtain ⟨bm, om, rfl, hbm, hcm⟩ := hcell (by omega)
          obtain ⟨q0, q1, ⟨sm, q2, hsm⟩, q3⟩ := hcm a m hma
          have y0 := (HBQ.out.cell (p := ⟨bm, om + a * 4, none⟩) hbm).trans q0
          have y1 := (HBQ.out.cell (p := ⟨bm, om + a * 4 + 1, none⟩) hbm).trans q1
          have y2 := (HBQ.out.cell (p := ⟨bm, om + a * 4 + 2, none⟩) hbm).trans q2
          have y3 := (HBQ.out.cell (p := ⟨bm, om + a * 4 + 3, none⟩) hbm).trans q3
          obtain ⟨Ac, cc, rfl, hcl1, hcl2, hsmc⟩ := hsm
          have HSM : Hid (RdX w3 (fun b => b < S0) 1 encInt (.slice Ac m.clitics.length cc) m.clitics) := Lib.hid ⟨Ac, cc, rfl, hcl1, hcl2, hsmc⟩
          have HMA := Lib.hid hma
          have haI : (a : Int) < (ms.length : Int) := by omega
          have hXq := (HBQ.out.block _ hwS).trans HX3.out
          have x0 : wq.cell? ⟨w.heap.size, 0, none⟩ = some (.slice A0 x.entries.length c0) := by simp [World.cell?, hXq]
          have x1 : wq.cell? ⟨w.heap.size, 1, none⟩ = some (.slice A1 x.endings.length c1) := by simp [World.cell?, hXq]
          have x2 : wq.cell? ⟨w.heap.size, 2, none⟩ = some (.slice A2 x.clitics.length c2) := by simp [World.cell?, hXq]
          have hwq : w.heap.size < wq.heap.size := by omega
          have hwq' : w.heap.size < wq.heap.size + 1 := by omega
          clear hcm hcell q0 q1 q2 q3 hsmc hma hXq
          go_wp2_with fail
          have MF : Hid (Lx.MFit x (s.extract i s.size).size m) := Lib.hid (Lx.matchesV_fits HCHK.out m (List.mem_of_getElem? (by have := HMA.out; rw [HMS.out] at this; exact this)))
          have hQ1 : Below wq.heap.size wq (wq.alloc (.cells #[.int .i64 m.entry, .int .i64 m.ending, .slice Ac m.clitics.length cc, .int .i64 m.long] 87)) := (Below.refl _ _).alloc (Nat.le_refl _) _
          have hBw : Below w.heap.size w (wq.alloc (.cells #[.int .i64 m.entry, .int .i64 m.ending, .slice Ac m.clitics.length cc, .int .i64 m.long] 87)) := (HB3.out.trans (HBQ.out.mono (by omega))).trans (hQ1.mono (by omega))
          refine (weight_any _ (.agg #[.int .i64 m.entry, .int .i64 m.ending, .slice Ac m.clitics.length cc]) x m.form _ ((HR.out.below hBw).more hBw.size) ⟨_, rfl, (HSM.out.keep (w' := wq.alloc (.cells #[.int .i64 m.entry, .int .i64 m.ending, .slice Ac m.clitics.length cc, .int .i64 m.long] 87)) (ok' := fun b => b < wq.heap.size) (fun b hb => ⟨by omega, (hQ1.block b (by omega)).trans (HBQ.out.block b hb)⟩)).to (fun b hb => by have := hQ1.size; omega)⟩ HCHK.out MF.out.form).mono ?_
          rintro e4 w4 ⟨rfl, hb4⟩
          have HB4 : Hid (Below wq.heap.size wq w4) := Lib.hid (hQ1.trans (hb4.mono hQ1.size))
          have hs4 : wq.heap.size + 1 ≤ w4.heap.size := by have := hb4.size; simp at this; omega
          have HM4 : Hid (w4.heap[wq.heap.size]? = some (.cells #[.int .i64 m.entry, .int .i64 m.ending, .slice Ac m.clitics.length cc, .int .i64 m.long] 87 (0, 0))) := Lib.hid ((hb4.block _ (by simp)).trans (heap_alloc_new _ _))
          clear hb4 hQ1 hBw x0 x1 x2 y0 y1 y2 y3
          have hml : i + m.long ≤ s.size := by
            have := MF.out.le
            rw [ByteArray.size_extract] at this
            omega
          have hmp := MF.out.pos
          have hw0 := Lx.heavyV_le (f := m.form) HCHK.out MF.out.form.few
          have HQ4 : Hid (Kept2 S0 wq w4) := Lib.hid (.of_below HB4.out (by omega))
          have HIN4 := Lib.hid (HIN.out.kept HB4.out (by omega))
          have hT4 := (HB4.out.block (S0 + 1) (by omega)).trans HT1Q.out
          obtain ⟨sl, hsl, hsr⟩ := HARR.out (i + m.long) hml
          obtain ⟨An, cn, rfl⟩ := hsr.form
          obtain ⟨nx, hnx⟩ : ∃ nx, nx = tab (i + m.long) := ⟨_, rfl⟩
          rw [← hnx] at hsl hsr
          have HSR := Lib.hid hsr
          have HNX := Lib.hid hnx
          have m3 : w4.cell? ⟨wq.heap.size, 3, none⟩ = some (.int .i64 m.long) := by simp [World.cell?, HM4.out]
          have tq : w4.cell? ⟨S0 + 1, i + m.long, none⟩ = some (.slice An nx.length cn) := by simp [World.cell?, hT4, hsl]
          have hmlI : (i : Int) + (m.long : Int) ≤ (s.size : Int) := by omega
          have hnl : nx.length ≤ 9223372036854775807 := by obtain ⟨ps, ⟨_, _, e, h1, h2, _⟩, h3⟩ := HSR.out; rw [← h3.len]; omega
          obtain ⟨wt, hwt⟩ : ∃ wt, wt = Lx.heavyV x m.form := ⟨_, rfl⟩
          rw [← hwt] at hw0 ⊢
          have HWT := Lib.hid hwt
          clear hT4 hsl hsr hnx hwt
          have hzs : wq.heap.size < w4.heap.size := by omega
          go_wp2_with fail
          obtain ⟨l0, hl0⟩ : ∃ l0, l0 = Lx.addMs x put tab i (ms.take a) [] := ⟨_, rfl⟩
          rw [← hl0] at HIN4
          have HL0 := Lib.hid hl0
          clear hl0 HIN m3 tq
          go_loopg [78] nx.length (fun g j wz => ∃ b : Nat, b ≤ nx.length ∧ g = nx.length - b ∧ j = .int .i64 b ∧ InL wr wz S0 wr.heap.size most fv (Lx.addNexts x put m (nx.take b) l0) ∧ wq.heap.size < wz.heap.size ∧
            wz.heap[wq.heap.size]? = some (.cells #[.int .i64 m.entry, .int .i64 m.ending, .slice Ac m.clitics.length cc, .int .i64 m.long] 87 (0, 0)))
          case atStart => exact ⟨0, Nat.zero_le _, rfl, rfl, by simpa [Lx.addNexts] using HIN4.out, hzs, HM4.out⟩
          case round =>
            rename World => wz
            obtain ⟨b, hb, rfl, rfl, hin0, hzs2, hmb⟩ := hrel
            have HINZ := Lib.hid hin0
            have HMB := Lib.hid hmb
            have m0 : wz.cell? ⟨wq.heap.size, 0, none⟩ = some (.int .i64 m.entry) := by simp [World.cell?, hmb]
            have m1 : wz.cell? ⟨wq.heap.size, 1, none⟩ = some (.int .i64 m.ending) := by simp [World.cell?, hmb]
            have m2 : wz.cell? ⟨wq.heap.size, 2, none⟩ = some (.slice Ac m.clitics.length cc) := by simp [World.cell?, hmb]
            clear hmb
            by_cases hlt2 : b < nx.length
            · obtain ⟨t, htb⟩ : ∃ t, nx[b]? = some t := ⟨_, List.getElem?_eq_getElem hlt2⟩
              have hsrz := HSR.out.keep (w' := wz) (ok' := fun b => b < wr.heap.size ∧ S0 + 1 < b) (fun b hb => ⟨hb, hin0.bel.block b hb.1⟩) (.of_below hin0.bel (by omega))
              obtain ⟨bs, os, rfl, hbs, hcs⟩ := hsrz.at (by omega)
              obtain ⟨q, hq, hrt⟩ := hcs b t htb
              have HRT := Lib.hid hrt
              have HTB := Lib.hid htb
              obtain ⟨htw0, htw1⟩ := Lx.tab_tw HCHK.out HMEM.out HATF.out k _ t (by have := List.mem_of_getElem? HTB.out; rw [HNX.out, HTAB.out] at this; exact this)
              have htw2 : Lx.tw t ≤ 400000 := by omega
              have hbI : (b : Int) < (nx.length : Int) := by omega
              clear hin0 hsrz hcs htb
              go_upto_if 84 with fail
              go_cut [18] (fun v wc => v = .int .i64 (wt + Lx.tw t) ∧ wc = wz)
              case first =>
                cases hrt with
                | nil =>
                  go_wp2_with fail
                  go_meet
                  go_light
                  refine ⟨?_, rfl⟩
                  simp [Lx.tw]
                | @cons bt n' f' s' q' r' hbt hst hrr =>
                  have n0 : wz.cell? ⟨bt, 0, none⟩ = some (.int .i64 n') := by simp [World.cell?, hbt]
                  simp only [Lx.tw] at htw0 htw1 htw2
                  clear hst hrr hbt
                  go_wp2_with fail
                  go_meet
                  go_light
                  exact ⟨rfl, rfl⟩
              case rest =>
                obtain ⟨rfl, rfl⟩ := hcut
                have OC : Hid (Lx.Occ x put (Lx.ats x s) s.size (Lx.addNexts x put m (nx.take b) l0) (Lx.push x m t)) := Lib.hid ⟨k, a, b, m, t, HK.out.2, by rw [← HK.out.1, ← HMS.out]; exact HMA.out, by rw [← HK.out.1, ← HTAB.out, ← HNX.out]; exact HTB.out, rfl, by
                  rw [← HK.out.1, ← HTAB.out, ← HNX.out, HL0.out, HMS.out]⟩
                have HNL : Hid (Lx.addNexts x put m (nx.take (b + 1)) l0 = put (Lx.addNexts x put m (nx.take b) l0) (Lx.push x m t)) := Lib.hid (Lx.addNexts_succ HTB.out)
                obtain ⟨lb, hlb⟩ : ∃ lb, lb = Lx.addNexts x put m (nx.take b) l0 := ⟨_, rfl⟩
                rw [← hlb] at OC HNL HINZ
                clear hlb
                go_wp2_with fail
                have hQ : Below wc.heap.size wc (wc.alloc (.cells #[.int .i64 (wt + Lx.tw t), .int .i64 m.entry, .int .i64 m.ending, .slice Ac m.clitics.length cc, .pointer q] 116)) := (Below.refl _ _).alloc (Nat.le_refl _) _
                have hinz := HINZ.out.kept hQ (by have := HINZ.out.siz; omega)
                have hzw : wr.heap.size + 1 ≤ wc.heap.size := HINZ.out.siz
                obtain ⟨hzb, hzs3, vz, psz, hz1, hz2, hz3⟩ := id hinz
                rw [HFV.out] at hz1
                have hB3 : Below S0 w3 (wc.alloc (.cells #[.int .i64 (wt + Lx.tw t), .int .i64 m.entry, .int .i64 m.ending, .slice Ac m.clitics.length cc, .pointer q] 116)) := HBEL.out.trans (hzb.mono (by omega))
                have hnew : RdTl (wc.alloc (.cells #[.int .i64 (wt + Lx.tw t), .int .i64 m.entry, .int .i64 m.ending, .slice Ac m.clitics.length cc, .pointer q] 116)) S0 (some ⟨wc.heap.size, 0, none⟩) (Lx.push x m t) :=
                  .cons (f := m.form) (by rw [← HWT.out]; exact heap_alloc_new _ _) (HSM.out.keep fun b hb => ⟨hb, hB3.block b hb⟩) (HRT.out.keep (.of_below hQ (by omega)))
                have hmz := (hQ.block _ hzs2).trans HMB.out
                refine (HADD.out _ _ _ ⟨_, _, _, _, _, rfl, fun u hu => by simp at hu; rcases hu with rfl | rfl | rfl | rfl | rfl <;> rfl⟩ OC.out _ S0 (wr.heap.size + 1) wr.heap.size _ vz psz hz1 hR (by omega) (by have := hQ.size; omega) hz2 hz3 hnew).mono ?_
                rintro e5 w5 ⟨rfl, v5, ps5, h51, h52, h53, h54, h55⟩
                have hs5 : wc.heap.size + 1 ≤ w5.heap.size := by have := h54.size; simp at this; omega
                have HIN5 : Hid (InL wr w5 S0 wr.heap.size most fv (Lx.addNexts x put m (nx.take (b + 1)) l0)) := Lib.hid (by
                  rw [HNL.out]
                  exact ⟨hzb.trans h54, by omega, v5, ps5, by rw [HFV.out]; exact h51, h52, h53⟩)
                have HM5 := Lib.hid ((h55 _ _ _ _ hmz (by decide) (by decide)).trans hmz)
                clear hinz hzb hzs3 hz1 hz2 hz3 hB3 hnew hmz h51 h52 h53 h54 h55 m0 m1 m2 hq
                go_wp2_with fail
                go_roundg (nx.length - (b + 1))
                case measure => omega
                case rel => exact ⟨b + 1, by omega, rfl, by go_num, HIN5.out, by omega, HM5.out⟩
            · have HINE : Hid (InL wr wz S0 wr.heap.size most fv (Lx.addMs x put tab i (ms.take (a + 1)) [])) := Lib.hid (by
                have hbn : b = nx.length := by omega
                rw [Lx.addMs_succ HMA.out, ← HNX.out, ← HL0.out, ← (List.take_of_length_le (Nat.le_of_eq hbn.symm) : nx.take b = nx)]
                exact HINZ.out)
              clear hin0 m0 m1 m2
              go_wp2_with fail
              go_roundg (ms.length - (a + 1))
              case measure => omega
              case rel => exact ⟨a + 1, by omega, rfl, by go_num, HINE.out⟩
        · have han : a = ms.length := by omega
          have hin := HIN.out
          rw [List.take_of_length_le (Nat.le_of_eq han.symm)] at hin
          obtain ⟨hzb, hzs3, vz, psz, hz1, hz2, hz3⟩ := hin
          obtain ⟨Az, cz, rfl⟩ := own_form hz2
          have r0 : wq.cell? ⟨wr.heap.size, 0, none⟩ = some (.slice Az psz.length cz) := by simp [World.cell?, hz1]
          obtain ⟨old, hold⟩ : ∃ old, arr[i]? = some old := ⟨_, Array.getElem?_eq_getElem (by omega)⟩
          have tq : wq.cell? ⟨S0 + 1, i, none⟩ = some old := by simp [World.cell?, HT1Q.out, hold]
          have tz : wq.frozen? ⟨S0 + 1, i, none⟩ = false := by simp [World.frozen?, HT1Q.out]
          have hg0 : wq.grownBy (wq.setCell ⟨S0 + 1, i, none⟩ (.slice Az psz.length cz)) (some (S0 + 1)) := grown_setCell _ _ _ _
          have hk2 : Kept2 S0 wq (wq.setCell ⟨S0 + 1, i, none⟩ (.slice Az psz.length cz)) := .of_grown hg0 (by omega) (by omega) HT1Q.out (by decide)
          have HB6 : Hid (Below S0 w3 (wq.setCell ⟨S0 + 1, i, none⟩ (.slice Az psz.length cz))) := Lib.hid (HBQ.out.setCell (by simp) _)
          have hT06 := (hg0.block S0 (by omega) (by simp)).trans ((hzb.block S0 hS0').trans HT0.out)
          have HT06 := Lib.hid hT06
          have HT16 : Hid ((wq.setCell ⟨S0 + 1, i, none⟩ (.slice Az psz.length cz)).heap[S0 + 1]? = some (.cells (arr.setIfInBounds i (.slice Az psz.length cz)) 110 (0, 0))) := Lib.hid (by
            simp [World.setCell, Array.getElem?_modify, HT1Q.out])
          have HA6 : Hid (RdArr (wq.setCell ⟨S0 + 1, i, none⟩ (.slice Az psz.length cz)) S0 (S0 + 1) (arr.setIfInBounds i (.slice Az psz.length cz)) s.size (Lx.tabT x put (Lx.ats x s) s.size (k + 1))) := Lib.hid (by
            intro j hj
            by_cases hji : j = i
            · subst hji
              refine ⟨_, set_same (by omega), psz, ?_, ?_⟩
              · exact (rdx_of_own len_ptr hz2).keep (fun b hb => ⟨⟨by have := hk2.size; omega, by omega⟩, hg0.block b hb.2 (fun e => by cases e; omega)⟩)
              · simp only [Lx.tabT]
                rw [if_pos HK.out.1, ← HK.out.1, ← HTAB.out, ← HMS.out]
                exact hz3.keep hk2
            · obtain ⟨sl, h1, h2⟩ := HAQ.out j hj
              refine ⟨sl, (set_other hji).trans h1, ?_⟩
              simp only [Lx.tabT]
              rw [if_neg (by rw [← HK.out.1]; exact hji), ← HTAB.out]
              exact h2.keep (fun b hb => ⟨⟨by have := hk2.size; omega, hb.2⟩, hg0.block b hb.1 (fun e => by cases e; omega)⟩) hk2)
          have hs6 : S0 + 3 ≤ (wq.setCell ⟨S0 + 1, i, none⟩ (.slice Az psz.length cz)).heap.size := by have := hk2.size; omega
          clear hzb hzs3 hz1 hz2 hz3 hold hg0 hk2 hT06
          go_wp2_with fail
          go_roundg (s.size - (k + 1))
          case measure => have := HK.out.2; omega
          case rel => exact ⟨k + 1, (i : Int) - 1, _, by have := HK.out.2; omega, rfl, by have := HK.out; omega, rfl, HB6.out, hs6, HT06.out, HT16.out, by simpa using hars, HA6.out⟩
    · obtain ⟨L, hL⟩ : ∃ L, L = Lx.tabT x put (Lx.ats x s) s.size s.size 0 := ⟨_, rfl⟩
      have hkn : k = s.size := by omega
      have hnp : ¬ 0 ≤ p := hp0
      obtain ⟨sl, hsl, hsr⟩ := harr 0 (Nat.zero_le _)
      rw [hkn, ← hL] at hsr
      obtain ⟨As, cs, rfl⟩ := hsr.form
      have tq : wr.cell? ⟨S0 + 1, 0, none⟩ = some (.slice As L.length cs) := by simp [World.cell?, hT1, hsl]
      have hLl : L.length ≤ 9223372036854775807 := by obtain ⟨ps, ⟨_, _, e, h1, h2, _⟩, h3⟩ := hsr; rw [← h3.len]; omega
      have HL := Lib.hid hL
      have HSR := Lib.hid hsr
      have HBF : Hid (Below w.heap.size w wr) := Lib.hid (HB3.out.trans (hbel.mono (by omega)))
      have hlen0 : L.length ≤ 64 := by rw [hL]; exact Lx.tab_llen HLEN.out _ _
      have hlent : ∀ t ∈ L, t.length ≤ 64 := fun t ht => by have := Lx.tab_tlen HMEM.out _ _ t (by rw [← hL]; exact ht); omega
      have HLT := Lib.hid hlent
      have HFW : Hid (∀ t ∈ L, ∀ a ∈ t, a.2.clitics.length ≤ 3) := Lib.hid (by rw [hL]; exact Lx.tab_forms (P := fun f => f.clitics.length ≤ 3) HMEM.out (fun j m hm => (HATF.out j m hm).2) _ _)
      clear hlent
      clear hbel hT0 hT1 harr hsl hsr hL hkn hp hp0
      go_wp2_with fail
      go_loopg [19, 109] L.length (fun g o j wz => ∃ a : Nat, a ≤ L.length ∧ g = L.length - a ∧ j = .int .i64 a ∧ (∃ A n c, o = .slice A n c) ∧ OwnG KCut 63 wz wr.heap.size o (Lx.cutsOf (L.take a)) ∧ Below wr.heap.size wr wz)
      case atStart => exact ⟨0, Nat.zero_le _, rfl, rfl, ⟨_, _, _, rfl⟩, OwnG.nil _ _ _, Below.refl _ _⟩
      case round =>
        rename World => wz
        obtain ⟨a, ha, rfl, rfl, ⟨Ao, no, co, rfl⟩, hog, hbz⟩ := hrel
        have HOG := Lib.hid hog
        have HBZ := Lib.hid hbz
        have hzs : wr.heap.size ≤ wz.heap.size := hbz.size
        by_cases hlt : a < L.length
        · obtain ⟨t, hta⟩ : ∃ t, L[a]? = some t := ⟨_, List.getElem?_eq_getElem hlt⟩
          have hsrz := HSR.out.keep (w' := wz) (ok' := fun b => b < wr.heap.size ∧ S0 + 1 < b) (fun b hb => ⟨hb, hbz.block b hb.1⟩) (.of_below hbz (by omega))
          obtain ⟨bs, os, rfl, hbs, hcs⟩ := hsrz.at (by omega)
          obtain ⟨q, hq, hrt⟩ := hcs a t hta
          have hne := Lx.tab_ne (x := x) (ats := Lx.ats x s) hs1 HMEM.out t (by rw [← HL.out]; exact List.mem_of_getElem? hta)
          have HTA := Lib.hid hta
          have haI : (a : Int) < (L.length : Int) := by omega
          have HRT := Lib.hid hrt
          cases hrt with
          | nil => exact absurd rfl hne
          | @cons bt n' f' s' q' r' hbt hst hrr =>
            have n0 : wz.cell? ⟨bt, 0, none⟩ = some (.int .i64 n') := by simp [World.cell?, hbt]
            clear hog hbz hsrz hcs hta hne hst hrr hbt
            go_wp2_with fail
            obtain ⟨tt, htt⟩ : ∃ tt : Lx.Tail, tt = (n', f') :: r' := ⟨_, rfl⟩
            rw [← htt] at HTA HRT
            have HTW : Hid (Lx.tw tt = n') := Lib.hid (by rw [htt]; rfl)
            have htl : tt.length ≤ 64 := HLT.out tt (List.mem_of_getElem? HTA.out)
            clear htt n0
            go_loopg [21] tt.length (fun g c wy => ∃ (b : Nat) (q : Option Addr) (v : Value), b ≤ tt.length ∧ g = tt.length - b ∧ c = .pointer q ∧ RdTl wy S0 q (tt.drop b) ∧ (∃ A n c, v = .slice A n c) ∧ wy.heap[wz.heap.size]? = some (.cells #[v, .int .i64 n'] 63 (0, 0)) ∧
              OwnG KForm 29 wy (wz.heap.size + 1) v ((tt.take b).map (·.2)) ∧ Below wz.heap.size wz wy ∧ wz.heap.size < wy.heap.size)
            case atStart =>
              have hal : Below wz.heap.size wz (wz.alloc (.cells #[.slice none 0 0, .int .i64 n'] 63)) := (Below.refl _ _).alloc (Nat.le_refl _) _
              exact ⟨0, _, _, Nat.zero_le _, rfl, rfl, HRT.out.keep (.of_below hal (by omega)), ⟨_, _, _, rfl⟩, heap_alloc_new _ _, OwnG.nil _ _ _, hal, by simp⟩
            case round =>
              rename World => wy
              obtain ⟨b, q, v, hb, rfl, rfl, hrt, ⟨Av, nv, cv, rfl⟩, hcb, hof, hby, hys⟩ := hrel
              have HCB := Lib.hid hcb
              have HOF := Lib.hid hof
              have HBY := Lib.hid hby
              generalize hdr : tt.drop b = dr at hrt
              have HDR := Lib.hid hdr
              clear hdr
              cases hrt with
              | nil =>
                have hbn : b = tt.length := by
                  have := HDR.out
                  rw [List.drop_eq_nil_iff] at this
                  omega
                have k0 : wy.cell? ⟨wz.heap.size, 0, none⟩ = some (.slice Av nv cv) := by simp [World.cell?, hcb]
                have k1 : wy.cell? ⟨wz.heap.size, 1, none⟩ = some (.int .i64 n') := by simp [World.cell?, hcb]
                have HOF2 : Hid (OwnG KForm 29 wy (wz.heap.size + 1) (.slice Av nv cv) (tt.map (·.2))) := Lib.hid (by
                  rw [← (List.take_of_length_le (Nat.le_of_eq hbn.symm) : tt.take b = tt)]; exact hof)
                obtain ⟨i2, hi2, hz2, hs2', hb2'⟩ := info_parts info_LCut
                have HOGY : Hid (OwnG KCut 63 wy wr.heap.size (.slice Ao no co) (Lx.cutsOf (L.take a))) := Lib.hid (HOG.out.kept hby)
                obtain ⟨cells, hownC, hrowsC⟩ := HOGY.out
                have hcl : (Lx.cutsOf (L.take a)).length = a := by rw [Lx.cutsOf, List.length_map, List.length_take]; omega
                obtain rfl : no = a := by
                  obtain ⟨_, _, e⟩ := own_form hownC
                  injection e with _ e _
                  rw [e, hcl]
                rw [hcl] at hownC
                have HOWNC := Lib.hid hownC
                have HROWSC := Lib.hid hrowsC
                have HCL := Lib.hid hcl
                obtain ⟨Af, cf, hf⟩ := hof.form
                injection hf with hf1 hf2 hf3
                have hvb : ∀ k, (Value.slice Ao no co).ownBlock = some k → wr.heap.size ≤ k ∧ k < wz.heap.size := fun k hk => HOG.out.lt k hk
                clear hcb hof hby hbn hownC hrowsC hcl hf1 hf2 hf3
                have hn64 : no ≤ 64 := by omega
                go_wp2_with (at_builtin; go_must (refine wpList_append_rd (enc := enc2) rfl (.tmp 138) (.tmp 140) _ rfl wr.heap.size 63 i2 _ 2 32 len_2 one_2 Tryz.underlying59 hi2 hz2 hs2' hb2' rfl (by decide) (.slice Ao no co) no cells rfl ?ho2 (wy.heap.size + 1) _ [((Av, nv, cv), n')] rfl ?hr2 ?h632 ?hb2 ?hB2 ?_))
                case ho2 =>
                  refine HOWNC.out.kept (grown_of_below (row := none) ((Below.refl _ _).alloc (Nat.le_refl _) _)) ?_
                  rcases HOWNC.out.2 with ⟨e, _⟩ | ⟨g, cap, cur, e, _⟩
                  · rw [e]; exact .inl rfl
                  · rw [e]; exact .inr (by simp [Value.ownBlock])
                case hr2 => exact rds_block (xs := [((Av, nv, cv), n')]) len_2 (heap_alloc_new _ _) rfl (by omega) (Nat.le_refl 1) (by decide)
                case h632 => simp only [maxLen]; show no + 1 ≤ _; omega
                case hb2 => show (no + 1) * 32 ≤ _; omega
                case hB2 => simp; omega
                intro v8 w8 hown8 hg8 hat8
                obtain ⟨A8, c8, rfl⟩ := own_form hown8
                obtain ⟨W7, hW7⟩ : ∃ W7, W7 = wy.alloc (.cells #[.slice Av nv cv, .int .i64 n'] 63) := ⟨_, rfl⟩
                rw [← hW7] at hg8
                have hb7 : Below wy.heap.size wy W7 := by rw [hW7]; exact (Below.refl _ _).alloc (Nat.le_refl _) _
                have hs7 : W7.heap.size = wy.heap.size + 1 := by rw [hW7]; simp
                have hys2 : wz.heap.size < wy.heap.size := hys
                have HOG8 : Hid (OwnG KCut 63 w8 wr.heap.size (.slice A8 (no + 1) c8) (Lx.cutsOf (L.take (no + 1)))) := Lib.hid (by
                  rw [Lx.cutsOf_succ HTA.out]
                  refine OwnG.snoc (K := KCut) (w := W7) (v := .slice Ao no co) (cells := cells) (cs := [.slice Av nv cv, .int .i64 n']) ?_ ⟨_, by rw [HTW.out], ?_⟩ ?_ hg8 (hat8.imp id fun e => ⟨_, e, by omega⟩)
                  · exact HROWSC.out.keep (fun b hb => ⟨⟨by omega, hb.2⟩, hb7.block b hb.1⟩)
                  · exact HOF2.out.rd.keep (fun b hb => ⟨⟨by omega, (fun e => by have := (hvb _ e).2; omega), by omega⟩, hb7.block b hb.1⟩)
                  · rw [HCL.out]
                    have h8 : w8.ownsRow wr.heap.size 63 2 (.slice A8 (no + 1) c8) (no + 1) (cells ++ [.slice Av nv cv, .int .i64 n']) := by simpa [enc2] using hown8
                    exact h8)
                have HB8 : Hid (Below wr.heap.size wr w8) := Lib.hid (((HBZ.out.trans ((HBY.out.trans (hb7.mono (by omega))).mono (by omega)))).grown hg8 (by omega) (fun k hk => (hvb k hk).1))
                clear hown8 hg8 hat8 hW7 hb7 hs7 k0 k1
                go_wp2_with fail
                go_roundg (L.length - (no + 1))
                case measure => omega
                case rel => exact ⟨no + 1, by omega, rfl, by go_num, ⟨_, _, _, rfl⟩, HOG8.out, HB8.out⟩
              | @cons bt n2 f2 s2 q2 r2 hbt hst hrr =>
                have j0 : wy.cell? ⟨bt, 1, none⟩ = some (.int .i64 f2.entry) := by simp [World.cell?, hbt]
                have j1 : wy.cell? ⟨bt, 2, none⟩ = some (.int .i64 f2.ending) := by simp [World.cell?, hbt]
                have j2 : wy.cell? ⟨bt, 3, none⟩ = some s2 := by simp [World.cell?, hbt]
                have HBT := Lib.hid hbt
                have HST := Lib.hid hst
                have HRR := Lib.hid hrr
                have hbtl : bt < wy.heap.size := (Array.getElem?_eq_some_iff.1 hbt).1
                obtain ⟨A2', c2', rfl, -⟩ := hst
                clear hcb hof hby hbt hrr
                go_wp2_with fail
                have hfew : f2.clitics.length ≤ 3 := HFW.out tt (List.mem_of_getElem? HTA.out) (n2, f2) (by
                  have : (n2, f2) ∈ tt.drop b := by rw [HDR.out]; simp
                  exact List.mem_of_mem_drop this)
                have hal : Below wy.heap.size wy (wy.alloc (.cells #[.int .i64 f2.entry, .int .i64 f2.ending, .slice A2' f2.clitics.length c2'] 29)) := (Below.refl _ _).alloc (Nat.le_refl _) _
                have hS0y : S0 ≤ wy.heap.size := by omega
                refine (cloneInt_any _ f2.clitics _ wy.heap.size ((HST.out.keep (w' := wy.alloc (.cells #[.int .i64 f2.entry, .int .i64 f2.ending, .slice A2' f2.clitics.length c2'] 29)) (ok' := fun b => b < wy.heap.size) (fun b hb => ⟨by omega, hal.block b (by omega)⟩)).to (fun b hb => hb)) (by omega)).mono ?_
                rintro e6 w6 ⟨v6, rfl, hown6, hb6⟩
                rw [show (wy.alloc (.cells #[.int .i64 f2.entry, .int .i64 f2.ending, .slice A2' f2.clitics.length c2'] 29)).heap.size = wy.heap.size + 1 by simp] at hown6 hb6
                obtain ⟨A6, c6, rfl⟩ := own_form hown6
                have hs6 : wy.heap.size + 1 ≤ w6.heap.size := by have := hb6.size; simp at this; omega
                have hF6 : w6.heap[wy.heap.size]? = some (.cells #[.int .i64 f2.entry, .int .i64 f2.ending, .slice A2' f2.clitics.length c2'] 29 (0, 0)) := (hb6.block _ (by omega)).trans (heap_alloc_new _ _)
                have HB6 : Hid (Below wy.heap.size wy w6) := Lib.hid (hal.trans (hb6.mono (by omega)))
                have hC6 := (HB6.out.block wz.heap.size hys).trans HCB.out
                have l0 : w6.cell? ⟨wy.heap.size, 0, none⟩ = some (.int .i64 f2.entry) := by simp [World.cell?, hF6]
                have l1 : w6.cell? ⟨wy.heap.size, 1, none⟩ = some (.int .i64 f2.ending) := by simp [World.cell?, hF6]
                have l2 : w6.cell? ⟨wy.heap.size, 2, none⟩ = some (.slice A2' f2.clitics.length c2') := by simp [World.cell?, hF6]
                have lz : w6.frozen? ⟨wy.heap.size, 2, none⟩ = false := by simp [World.frozen?, hF6]
                have k0 : w6.cell? ⟨wz.heap.size, 0, none⟩ = some (.slice Av nv cv) := by simp [World.cell?, hC6]
                have kz : w6.frozen? ⟨wz.heap.size, 0, none⟩ = false := by simp [World.frozen?, hC6]
                have HOWN6 := Lib.hid hown6
                have HC6 := Lib.hid hC6
                obtain ⟨i3, hi3, hz3, hs3', hb3'⟩ := info_parts info_Form
                obtain ⟨cells, hownF, hrowsF⟩ := HOF.out
                have hfl : ((tt.take b).map (·.2)).length = b := by rw [List.length_map, List.length_take]; omega
                obtain rfl : nv = b := by
                  obtain ⟨_, _, e⟩ := own_form hownF
                  injection e with _ e _
                  rw [e, hfl]
                rw [hfl] at hownF
                have HOWNF := Lib.hid hownF
                have HFL := Lib.hid hfl
                clear hfl
                have HROWSF := Lib.hid hrowsF
                have hne1 : wz.heap.size ≠ wy.heap.size := by omega
                clear hown6 hb6 hal hF6 hC6 hownF hrowsF j0 j1 j2
                have HB7 : Hid (Below wy.heap.size wy ((w6.setCell ⟨wy.heap.size, 2, none⟩ (.slice A6 f2.clitics.length c6)).alloc (.cells #[.int .i64 f2.entry, .int .i64 f2.ending, .slice A6 f2.clitics.length c6] 29))) :=
                  Lib.hid ((HB6.out.setCell (by simp) _).alloc (by simp [World.setCell]; omega) _)
                have hs7 : ((w6.setCell ⟨wy.heap.size, 2, none⟩ (.slice A6 f2.clitics.length c6)).alloc (.cells #[.int .i64 f2.entry, .int .i64 f2.ending, .slice A6 f2.clitics.length c6] 29)).heap.size = w6.heap.size + 1 := by simp [World.setCell]
                have hvb : ∀ k, (Value.slice Av nv cv).ownBlock = some k → wz.heap.size + 1 ≤ k ∧ k < wy.heap.size := fun k hk => HOWNF.out.lt k hk
                go_wp2_with (at_builtin; go_must (refine wpList_append_rd (enc := enc3) rfl (.tmp 133) (.tmp 135) _ rfl (wz.heap.size + 1) 29 i3 _ 3 40 len_3 one_3 Tryz.underlying43 hi3 hz3 hs3' hb3' rfl (by decide) (.slice Av nv cv) nv cells rfl ?ho (w6.heap.size + 1) _ [(f2.entry, f2.ending, (A6, f2.clitics.length, c6))] rfl ?hr ?h63 ?hb ?hB ?_))
                case ho =>
                  refine HOWNF.out.kept (grown_of_below (row := none) HB7.out) ?_
                  rcases HOWNF.out.2 with ⟨e, _⟩ | ⟨g, cap, cur, e, _⟩
                  · rw [e]; exact .inl rfl
                  · rw [e]; exact .inr (by simp [Value.ownBlock])
                case hr =>
                  have hn := heap_alloc_new (w6.setCell ⟨wy.heap.size, 2, none⟩ (.slice A6 f2.clitics.length c6)) (.cells #[.int .i64 f2.entry, .int .i64 f2.ending, .slice A6 f2.clitics.length c6] 29)
                  rw [show (w6.setCell ⟨wy.heap.size, 2, none⟩ (.slice A6 f2.clitics.length c6)).heap.size = w6.heap.size by simp [World.setCell]] at hn
                  exact rds_block (xs := [(f2.entry, f2.ending, (A6, f2.clitics.length, c6))]) len_3 hn rfl (by omega) (Nat.le_refl 1) (by decide)
                case h63 => simp only [maxLen]; show _ + 1 ≤ _; omega
                case hb => show (_ + 1) * 40 ≤ _; omega
                case hB => rw [hs7]; omega
                intro v8 w8 hown8 hg8 hat8
                obtain ⟨A8, c8, rfl⟩ := own_form hown8
                obtain ⟨W7, hW7⟩ : ∃ W7, W7 = (w6.setCell ⟨wy.heap.size, 2, none⟩ (.slice A6 f2.clitics.length c6)).alloc (.cells #[.int .i64 f2.entry, .int .i64 f2.ending, .slice A6 f2.clitics.length c6] 29) := ⟨_, rfl⟩
                rw [← hW7] at hg8 hs7
                have HB7' : Hid (Below wy.heap.size wy W7) := Lib.hid (by rw [hW7]; exact HB7.out)
                have hgF : w6.grownBy W7 (some wy.heap.size) := by
                  rw [hW7]
                  exact grown_after (grown_setCell _ _ _ _) (grown_of_below ((Below.refl _ _).alloc (Nat.le_refl _) _)) (.inl rfl)
                have hs8 : w6.heap.size + 1 ≤ w8.heap.size := by have := hg8.size; omega
                have hC7 : W7.heap[wz.heap.size]? = some (.cells #[.slice Av nv cv, .int .i64 n'] 63 (0, 0)) := (HB7'.out.block wz.heap.size hys).trans HCB.out
                have hC8 : w8.heap[wz.heap.size]? = some (.cells #[.slice Av nv cv, .int .i64 n'] 63 (0, 0)) := (hg8.block _ (by omega) (fun e => by have := (hvb _ e.symm).1; omega)).trans hC7
                have hownW : W7.ownsRow (wz.heap.size + 1) 29 3 (.slice Av nv cv) nv cells := by
                  refine HOWNF.out.kept (grown_of_below (row := none) HB7'.out) ?_
                  rcases HOWNF.out.2 with ⟨e, _⟩ | ⟨g, cap, cur, e, _⟩
                  · rw [e]; exact .inl rfl
                  · rw [e]; exact .inr (by simp [Value.ownBlock])
                have hrx : RdX W7 (fun b => b < W7.heap.size ∧ (Value.slice Av nv cv).ownBlock ≠ some b ∧ wz.heap.size + 1 ≤ b) 1 encInt (.slice A6 f2.clitics.length c6) f2.clitics :=
                  (rdx_of_own len_int HOWN6.out).keep (fun b hb => ⟨⟨by omega, (fun e => by have := (hvb _ e).2; omega), by omega⟩, hgF.block b hb.2 (fun e => by cases e; omega)⟩)
                have HOF8 : Hid (OwnG KForm 29 w8 (wz.heap.size + 1) (.slice A8 (nv + 1) c8) ((tt.take (nv + 1)).map (·.2))) := Lib.hid (by
                  have hb' : nv < tt.length := by
                    have := HDR.out
                    rcases Nat.lt_or_ge nv tt.length with h | h
                    · exact h
                    · rw [List.drop_eq_nil_of_le h] at this; cases this
                  have hget : tt[nv] = (n2, f2) := by
                    have := HDR.out
                    rw [List.drop_eq_getElem_cons hb'] at this
                    injection this
                  rw [List.take_succ_eq_append_getElem hb', List.map_append, hget]
                  refine OwnG.snoc (K := KForm) (w := W7) (v := .slice Av nv cv) (cells := cells) (cs := [.int .i64 f2.entry, .int .i64 f2.ending, .slice A6 f2.clitics.length c6]) ?_ ⟨_, rfl, hrx⟩ ?_ hg8 (hat8.imp id fun e => ⟨_, e, by omega⟩)
                  · exact HROWSF.out.keep (fun b hb => ⟨⟨by have := HB7'.out.size; omega, hb.2⟩, HB7'.out.block b hb.1⟩)
                  · rw [HFL.out]
                    have h8 : w8.ownsRow (wz.heap.size + 1) 29 3 (.slice A8 (nv + 1) c8) (nv + 1) (cells ++ [.int .i64 f2.entry, .int .i64 f2.ending, .slice A6 f2.clitics.length c6]) := by simpa [enc3] using hown8
                    exact h8)
                have HK8 : Hid (Kept2 S0 wy (w8.setCell ⟨wz.heap.size, 0, none⟩ (.slice A8 (nv + 1) c8))) := Lib.hid
                  (((Kept2.of_below HB7'.out hS0y).trans (.of_own hg8 hownW (by omega) (by have := HB7'.out.size; omega) (by decide))).trans (.of_grown (grown_setCell _ _ _ _) (by omega) (by omega) hC8 (by decide)))
                have hb8 : w8.heap[bt]? = some (.cells #[.int .i64 n2, .int .i64 f2.entry, .int .i64 f2.ending, .slice A2' f2.clitics.length c2', .pointer q2] 116 (0, 0)) :=
                  (((Kept2.of_below HB7'.out hS0y).trans (.of_own hg8 hownW (by omega) (by have := HB7'.out.size; omega) (by decide))).tl _ _ _ HBT.out).trans HBT.out
                have hne : bt ≠ wz.heap.size := fun e => by rw [e, hC8] at hb8; simp at hb8
                have i4 : w8.cell? ⟨bt, 4, none⟩ = some (.pointer q2) := by simp [World.cell?, hb8]
                have k8 : w8.cell? ⟨wz.heap.size, 0, none⟩ = some (.slice Av nv cv) := by simp [World.cell?, hC8]
                have z8 : w8.frozen? ⟨wz.heap.size, 0, none⟩ = false := by simp [World.frozen?, hC8]
                have HC9 : Hid ((w8.setCell ⟨wz.heap.size, 0, none⟩ (.slice A8 (nv + 1) c8)).heap[wz.heap.size]? = some (.cells #[.slice A8 (nv + 1) c8, .int .i64 n'] 63 (0, 0))) := Lib.hid (by
                  simp [World.setCell, Array.getElem?_modify, hC8])
                have HOF9 : Hid (OwnG KForm 29 (w8.setCell ⟨wz.heap.size, 0, none⟩ (.slice A8 (nv + 1) c8)) (wz.heap.size + 1) (.slice A8 (nv + 1) c8) ((tt.take (nv + 1)).map (·.2))) := Lib.hid (HOF8.out.aside (grown_setCell _ _ _ _) (fun k hk => by cases hk; omega))
                have HB9 : Hid (Below wz.heap.size wz (w8.setCell ⟨wz.heap.size, 0, none⟩ (.slice A8 (nv + 1) c8))) := Lib.hid
                  ((((HBY.out.trans (HB7'.out.mono (by omega))).grown hg8 (by omega) (fun k hk => by have := (hvb k hk).1; omega))).setCell (by simp) _)
                have HR9 : Hid (RdTl (w8.setCell ⟨wz.heap.size, 0, none⟩ (.slice A8 (nv + 1) c8)) S0 q2 (tt.drop (nv + 1))) := Lib.hid (by
                  have hd : tt.drop (nv + 1) = r2 := by rw [← List.drop_drop, HDR.out]; rfl
                  rw [hd]
                  exact HRR.out.keep HK8.out)
                have hs9 : wz.heap.size < (w8.setCell ⟨wz.heap.size, 0, none⟩ (.slice A8 (nv + 1) c8)).heap.size := by simp [World.setCell]; omega
                clear hownW hrx hC7 hC8 hb8 hgF hg8 hat8 hW7 hs7 hown8 l0 l1 l2 lz k0 kz
                go_wp2_with fail
                go_roundg (tt.length - (nv + 1))
                case measure =>
                  have : nv < tt.length := by
                    have := HDR.out
                    rcases Nat.lt_or_ge nv tt.length with h | h
                    · exact h
                    · rw [List.drop_eq_nil_of_le h] at this; cases this
                  omega
                case rel =>
                  refine ⟨nv + 1, q2, _, ?_, rfl, rfl, HR9.out, ⟨_, _, _, rfl⟩, HC9.out, HOF9.out, HB9.out, hs9⟩
                  have := HDR.out
                  rcases Nat.lt_or_ge nv tt.length with h | h
                  · exact h
                  · rw [List.drop_eq_nil_of_le h] at this; cases this
        · have han : a = L.length := by omega
          have HF : Hid (OwnG KCut 63 wz wr.heap.size (.slice Ao no co) (Lx.cutsOf L)) := Lib.hid (by rw [← (List.take_of_length_le (Nat.le_of_eq han.symm) : L.take a = L)]; exact hog)
          clear hog hbz han
          go_wp2_with fail
          go_ret2
          exact ⟨_, rfl, by rw [← HL.out]; exact HF.out.rd.keep (fun b hb => ⟨hb.1, rfl⟩), HBF.out.trans (HBZ.out.mono HBF.out.size)⟩
end Go.Proofs.YtpmnpnlfgfleeaaGreatDoor
