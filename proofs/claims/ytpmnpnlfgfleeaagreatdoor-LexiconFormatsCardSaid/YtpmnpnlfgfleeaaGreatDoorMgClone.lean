/- ostraconlaw05.known: the lexicon of the examples. Matches in memory: rows with an inner slice; lists of the call's own. lexicon.stem, ostraconref05.stem, lexicon.speech. slices.Clone at []int, for every slice that reads as a list. -/
import Derived.Test.YtpmnpnlfgfleeaaGreatDoorMgCopied
import Derived.Test.YtpmnpnlfgfleeaaGreatDoorMgGloss
import Derived.Test.YtpmnpnlfgfleeaaGreatDoorMgMatchPlain
import Derived.Test.YtpmnpnlfgfleeaaGreatDoorMgCheck
namespace Go.Proofs.YtpmnpnlfgfleeaaGreatDoor
open Go.RowKit
def Lx.known : Lx.Lexicon := ⟨[⟨⟨#[110, 102, 114]⟩, 1, ⟨#[103, 111, 111, 100]⟩, 2⟩, ⟨⟨#[110]⟩, 2, ⟨#[]⟩, 1⟩], [⟨1, ⟨#[116]⟩, ⟨#[102, 101, 109]⟩, 1⟩], [⟨⟨#[102]⟩, ⟨#[104, 105, 115]⟩, 1⟩, ⟨⟨#[114]⟩, ⟨#[116, 111]⟩, 0⟩]⟩

theorem rds_block {α : Type} {en : α → List Value} {size : Nat} {w : World} {g c : Nat} {cs : Array Value} {t : TypeId} {fr : Nat × Nat} {B : Nat} {xs : List α} (hu : ∀ x, (en x).length = size) (hh : w.heap[g]? = some (.cells cs t fr)) (hc : cs.toList = xs.flatMap en) (hB : g < B) (hl : xs.length ≤ c) (hm : c ≤ 9223372036854775807) :
    RdS w B size en (.slice (some ⟨g, 0, none⟩) xs.length c) xs := by
  refine ⟨some ⟨g, 0, none⟩, c, rfl, hl, hm, fun _ => ⟨g, 0, rfl, hB, fun i x hx j u hj => ?_⟩⟩
  have h1 := flat_at hu xs i x hx j u hj
  rw [← hc] at h1
  simp only [World.cell?, hh, Option.isSome_none, Bool.false_eq_true, if_false]
  rw [← h1]
  simp [Nat.zero_add]

theorem heap4 (w : World) (A B C D : Obj) : ((((w.alloc A).alloc B).alloc C).alloc D).heap[w.heap.size + 1]? = some B ∧ ((((w.alloc A).alloc B).alloc C).alloc D).heap[w.heap.size + 1 + 1]? = some C ∧
    ((((w.alloc A).alloc B).alloc C).alloc D).heap[w.heap.size + 1 + 1 + 1]? = some D ∧ ((((w.alloc A).alloc B).alloc C).alloc D).heap.size = w.heap.size + 4 := by
  have s1 : ∀ (W : World) (o : Obj), (W.alloc o).heap.size = W.heap.size + 1 := fun W o => by simp
  refine ⟨?_, ?_, ?_, by rw [s1, s1, s1, s1]⟩
  · rw [Below.heap_alloc _ _ _ (by rw [s1, s1, s1]; omega), Below.heap_alloc _ _ _ (by rw [s1, s1]; omega)]
    have := heap_alloc_new (w.alloc A) B
    rwa [s1] at this
  · rw [Below.heap_alloc _ _ _ (by rw [s1, s1, s1]; omega)]
    have := heap_alloc_new ((w.alloc A).alloc B) C
    rwa [s1, s1] at this
  · have := heap_alloc_new (((w.alloc A).alloc B).alloc C) D
    rwa [s1, s1, s1] at this
theorem below4 (w : World) (A B C D : Obj) : Below w.heap.size w ((((w.alloc A).alloc B).alloc C).alloc D) := by
  have s1 : ∀ (W : World) (o : Obj), (W.alloc o).heap.size = W.heap.size + 1 := fun W o => by simp
  exact ((((Below.refl _ _).alloc (Nat.le_refl _) _).alloc (by rw [s1]; omega) _).alloc (by rw [s1, s1]; omega) _).alloc (by rw [s1, s1, s1]; omega) _
theorem known_rd {w : World} {A : Obj} : RdL ((((w.alloc A).alloc (.cells #[.string ⟨#[110, 102, 114]⟩, .int .i64 1, .string ⟨#[103, 111, 111, 100]⟩, .int .i64 2, .string ⟨#[110]⟩, .int .i64 2, .string ⟨#[]⟩, .int .i64 1] 57)).alloc
      (.cells #[.int .i64 1, .string ⟨#[116]⟩, .string ⟨#[102, 101, 109]⟩, .int .i64 1] 55)).alloc (.cells #[.string ⟨#[102]⟩, .string ⟨#[104, 105, 115]⟩, .int .i64 1, .string ⟨#[114]⟩, .string ⟨#[116, 111]⟩, .int .i64 0] 65)) (w.heap.size + 4)
    (.agg #[.slice (some ⟨w.heap.size + 1, 0, none⟩) 2 2, .slice (some ⟨w.heap.size + 1 + 1, 0, none⟩) 1 1, .slice (some ⟨w.heap.size + 1 + 1 + 1, 0, none⟩) 2 2]) Lx.known := by
  refine ⟨⟨_, _, _, rfl, ?_, ?_, ?_⟩, ?_, ?_, ?_⟩
  · exact rds_block (xs := Lx.known.entries) len_entry (heap4 _ _ _ _ _).1 rfl (by omega) (by decide) (by decide)
  · exact rds_block (xs := Lx.known.endings) len_ending (heap4 _ _ _ _ _).2.1 rfl (by omega) (by decide) (by decide)
  · exact rds_block (xs := Lx.known.clitics) len_clitic (heap4 _ _ _ _ _).2.2.1 rfl (by omega) (by decide) (by decide)
  · intro e he; simp [Lx.known] at he; rcases he with rfl | rfl <;> exact ⟨by decide, by decide⟩
  · intro e he; simp [Lx.known] at he; subst he; exact ⟨by decide, by decide⟩
  · intro e he; simp [Lx.known] at he; rcases he with rfl | rfl <;> exact ⟨by decide, by decide⟩

set_option maxRecDepth 100000 in
theorem known_any (w : World) : Calls Tryz.prog 27 #[] w (fun e w' => ∃ v, e = .returned v ∧ RdL w' w'.heap.size v Lx.known ∧ Below w.heap.size w w') := by
  go_enter Tryz.func27, Tryz.ntmps27
  go_wp2_with fail
  refine bodyPost_ret (v := .agg #[.slice (some ⟨w.heap.size + 1, 0, none⟩) 2 2, .slice (some ⟨w.heap.size + 1 + 1, 0, none⟩) 1 1, .slice (some ⟨w.heap.size + 1 + 1 + 1, 0, none⟩) 2 2]) (by simp [results, Tryz.results27, go_sem]) rfl ⟨_, rfl, ?_, below4 _ _ _ _ _⟩
  rw [(heap4 _ _ _ _ _).2.2.2]
  exact known_rd
end Go.Proofs.YtpmnpnlfgfleeaaGreatDoor
namespace Go.Proofs.YtpmnpnlfgfleeaaGreatDoor
open Go.RowKit

/-- As RdS, the block within 'ok'. -/
def RdX {α : Type} (w : World) (ok : Nat → Prop) (size : Nat) (enc : α → List Value) (v : Value) (xs : List α) : Prop :=
  ∃ A c, v = .slice A xs.length c ∧ xs.length ≤ c ∧ c ≤ 9223372036854775807 ∧
    (0 < xs.length → ∃ b off, A = some ⟨b, off, none⟩ ∧ ok b ∧ ∀ i x, xs[i]? = some x → ∀ j u, (enc x)[j]? = some u → w.cell? ⟨b, off + i * size + j, none⟩ = some u)
theorem RdX.of {α : Type} {w : World} {B size : Nat} {enc : α → List Value} {v : Value} {xs : List α} (h : RdS w B size enc v xs) : RdX w (· < B) size enc v xs := h
theorem RdX.to {α : Type} {w : World} {B size : Nat} {enc : α → List Value} {v : Value} {xs : List α} {ok : Nat → Prop} (h : RdX w ok size enc v xs) (hB : ∀ b, ok b → b < B) : RdS w B size enc v xs := by
  obtain ⟨A, c, hv, hl, hc, hh⟩ := h
  refine ⟨A, c, hv, hl, hc, fun h0 => ?_⟩
  obtain ⟨b, off, hA, hb, hcell⟩ := hh h0
  exact ⟨b, off, hA, hB b hb, hcell⟩
theorem RdX.keep {α : Type} {w w' : World} {size : Nat} {enc : α → List Value} {v : Value} {xs : List α} {ok ok' : Nat → Prop} (h : RdX w ok size enc v xs) (hk : ∀ b, ok b → ok' b ∧ w'.heap[b]? = w.heap[b]?) : RdX w' ok' size enc v xs := by
  obtain ⟨A, c, hv, hl, hc, hh⟩ := h
  refine ⟨A, c, hv, hl, hc, fun h0 => ?_⟩
  obtain ⟨b, off, hA, hb, hcell⟩ := hh h0
  exact ⟨b, off, hA, (hk b hb).1, fun i x hx j u hu => (World.cell?_of_block (a := ⟨b, off + i * size + j, none⟩) (hk b hb).2).trans (hcell i x hx j u hu)⟩

/-- The cells of rows of matches. -/
def mrows (w : World) (ok : Nat → Prop) : List Value → List Lx.Match → Prop
  | [], [] => True
  | a :: b :: c :: d :: r, m :: ms => a = .int .i64 m.entry ∧ b = .int .i64 m.ending ∧ RdX w ok 1 encInt c m.clitics ∧ d = .int .i64 m.long ∧ mrows w ok r ms
  | _, _ => False
theorem mrows_keep {w w' : World} {ok ok' : Nat → Prop} (hk : ∀ b, ok b → ok' b ∧ w'.heap[b]? = w.heap[b]?) : ∀ (cs : List Value) (ms : List Lx.Match), mrows w ok cs ms → mrows w' ok' cs ms
  | [], [], _ => trivial
  | a :: b :: c :: d :: r, m :: ms, ⟨h1, h2, h3, h4, h5⟩ => ⟨h1, h2, h3.keep hk, h4, mrows_keep hk r ms h5⟩
  | [], _ :: _, h => h
  | [_], _, h => by cases ‹List Lx.Match› <;> exact h
  | [_, _], _, h => by cases ‹List Lx.Match› <;> exact h
  | [_, _, _], _, h => by cases ‹List Lx.Match› <;> exact h
  | _ :: _ :: _ :: _ :: _, [], h => h
theorem mrows_snoc {w : World} {ok : Nat → Prop} {a b c d : Value} {m : Lx.Match} (h : mrows w ok [a, b, c, d] [m]) : ∀ (cs : List Value) (ms : List Lx.Match), mrows w ok cs ms → mrows w ok (cs ++ [a, b, c, d]) (ms ++ [m])
  | [], [], _ => h
  | _ :: _ :: _ :: _ :: r, _ :: ms, ⟨h1, h2, h3, h4, h5⟩ => ⟨h1, h2, h3, h4, mrows_snoc h r ms h5⟩
  | [], _ :: _, h => h.elim
  | [_], ms, h => by cases ms <;> exact h.elim
  | [_, _], ms, h => by cases ms <;> exact h.elim
  | [_, _, _], ms, h => by cases ms <;> exact h.elim
  | _ :: _ :: _ :: _ :: _, [], h => h.elim
theorem mrows_at {w : World} {ok : Nat → Prop} : ∀ (cs : List Value) (ms : List Lx.Match), mrows w ok cs ms → ∀ (i : Nat) (m : Lx.Match), ms[i]? = some m →
    cs[i * 4]? = some (.int .i64 m.entry) ∧ cs[i * 4 + 1]? = some (.int .i64 m.ending) ∧ (∃ c, cs[i * 4 + 2]? = some c ∧ RdX w ok 1 encInt c m.clitics) ∧ cs[i * 4 + 3]? = some (.int .i64 m.long)
  | [], [], _, i, m, h => by simp at h
  | a :: b :: c :: d :: r, m0 :: ms, ⟨h1, h2, h3, h4, h5⟩, i, m, h => by
    cases i with
    | zero =>
      simp at h
      subst h
      exact ⟨by simp [h1], by simp [h2], ⟨c, by simp, h3⟩, by simp [h4]⟩
    | succ i =>
      simp at h
      have := mrows_at r ms h5 i m h
      simpa [Nat.succ_mul] using this
  | [], _ :: _, h, _, _, _ => h.elim
  | [_], ms, h, _, _, _ => by cases ms <;> exact h.elim
  | [_, _], ms, h, _, _, _ => by cases ms <;> exact h.elim
  | [_, _, _], ms, h, _, _, _ => by cases ms <;> exact h.elim
  | _ :: _ :: _ :: _ :: _, [], h, _, _, _ => h.elim

/-- A list of matches of the call's own. -/
def OwnM (w : World) (base : Nat) (v : Value) (ms : List Lx.Match) : Prop :=
  ∃ cells, w.ownsRow base 87 4 v ms.length cells ∧ mrows w (fun b => b < w.heap.size ∧ v.ownBlock ≠ some b ∧ base ≤ b) cells ms
theorem OwnM.nil (w : World) (base : Nat) : OwnM w base (.slice none 0 0) [] := ⟨[], World.ownsRow_nil w base _ _, trivial⟩
theorem OwnM.kept {w w' : World} {base : Nat} {v : Value} {ms : List Lx.Match} (h : OwnM w base v ms) (hb : Below w.heap.size w w') : OwnM w' base v ms := by
  obtain ⟨cells, h1, h2⟩ := h
  refine ⟨cells, h1.kept (row := none) ⟨hb.os, hb.tape, hb.output, hb.size, fun k hk _ => hb.block k hk⟩ (by
    rcases h1.2 with ⟨rfl, _⟩ | ⟨g, cap, cur, rfl, _⟩
    · exact .inl rfl
    · exact .inr (by simp [Value.ownBlock])), mrows_keep (fun b hbk => ⟨⟨Nat.lt_of_lt_of_le hbk.1 hb.size, hbk.2⟩, hb.block b hbk.1⟩) _ _ h2⟩
end Go.Proofs.YtpmnpnlfgfleeaaGreatDoor
namespace Go.Proofs.YtpmnpnlfgfleeaaGreatDoor
open Go.RowKit

def RetS (s : ByteArray) (w : World) (e : Ending) (w' : World) : Prop := e = .returned (.string s) ∧ Below w.heap.size w w'
theorem ret_str {s t : ByteArray} (h : s = t) : Ending.returned (.string s) = .returned (.string t) := by rw [h]

set_option maxRecDepth 100000 in
set_option maxHeartbeats 1000000 in
theorem stem_any (v vf : Value) (x : Lx.Lexicon) (f : Lx.Form) (w : World) (hr : RdL w w.heap.size v x) (hf : RdF w w.heap.size vf f) (hchk : Lx.checkV x = 0) (hfit : Lx.Fits x f) :
    Calls Tryz.prog 66 #[v, vf] w (RetS (Lx.stemV x f) w) := by
  obtain ⟨⟨v0, v1, v2, rfl, ⟨A0, c0, rfl, hl0, hm0, hc0⟩, ⟨A1, c1, rfl, hl1, hm1, hc1⟩, ⟨A2, c2, rfl, hl2, hm2, -⟩⟩, -, -, -⟩ := hr
  obtain ⟨⟨sf, rfl, ⟨A3, c3, rfl, -⟩⟩⟩ := hf
  have hn0 : x.entries.length ≤ 9223372036854775807 := by omega
  have hn1 : x.endings.length ≤ 9223372036854775807 := by omega
  clear hl0 hl1 hl2 hm0 hm1 hm2
  have hpar := Lx.check_parts hchk
  obtain ⟨hlo, hhi⟩ := hfit.ent
  obtain ⟨b, off, rfl, hb, hcell⟩ := hc0 (by omega)
  obtain ⟨e, he⟩ : ∃ e, x.entries[f.entry.toNat]? = some e := ⟨_, List.getElem?_eq_getElem (by omega)⟩
  obtain ⟨_, hr8, _⟩ := Lx.ok_entry (Lx.good_at hpar.2.1 he)
  have f0 : w.cell? ⟨b, off + f.entry.toNat * 4, none⟩ = some (.string e.root) := hcell _ e he 0 _ rfl
  have HBX : Hid (∀ A B : Obj, Below w.heap.size w ((w.alloc A).alloc B)) := Lib.hid fun A B => ((Below.refl _ _).alloc (Nat.le_refl _) _).alloc (by simp) _
  clear hcell hchk
  by_cases hneg : f.ending < 0
  · have HF : Hid (Lx.stemV x f = e.root) := Lib.hid (by simp [Lx.stemV, he, hneg])
    clear he hpar hfit hc1
    go_enter Tryz.func66, Tryz.ntmps66
    go_wp2_with fail
    go_ret
    exact ⟨ret_str HF.out.symm, HBX.out _ _⟩
  · have hge : 0 ≤ f.ending := by omega
    have hlt1 : f.ending < (x.endings.length : Int) := by have := hfit.fin; omega
    obtain ⟨b1, off1, rfl, hb1, hcell1⟩ := hc1 (by omega)
    obtain ⟨g, hg⟩ : ∃ g, x.endings[f.ending.toNat]? = some g := ⟨_, List.getElem?_eq_getElem (by omega)⟩
    obtain ⟨_, ht4, _⟩ := Lx.ok_ending (Lx.good_at hpar.2.2.1 hg)
    have g1 : w.cell? ⟨b1, off1 + f.ending.toNat * 4 + 1, none⟩ = some (.string g.text) := hcell1 _ g hg 1 _ rfl
    have HF : Hid (Lx.stemV x f = e.root ++ g.text) := Lib.hid (by simp [Lx.stemV, he, hneg, hg])
    clear he hpar hfit hg hcell1 hneg
    go_enter Tryz.func66, Tryz.ntmps66
    go_wp2_with fail
    go_ret
    exact ⟨ret_str HF.out.symm, HBX.out _ _⟩


def Lx.speechV (x : Lx.Lexicon) (s : ByteArray) : Int := if Lx.checkV x ≠ 0 then Lx.checkV x else if Lx.soundsB s 64 = false then 4 else 0

set_option maxRecDepth 100000 in
set_option maxHeartbeats 1000000 in
theorem speech_any (v : Value) (x : Lx.Lexicon) (s : ByteArray) (w : World) (hr : RdL w w.heap.size v x) (hs : s.size ≤ maxLen) : Calls Tryz.prog 41 #[v, .string s] w (RetIB (Lx.speechV x s) w) := by
  have HCK : Hid (∀ (W : World), Below w.heap.size w W → Calls Tryz.prog 33 #[v] W (RetIB (Lx.checkV x) W)) := Lib.hid fun W hW => Check_any v x W ((hr.below hW).more hW.size)
  obtain ⟨⟨v0, v1, v2, rfl, ⟨A0, c0, rfl, -⟩, ⟨A1, c1, rfl, -⟩, ⟨A2, c2, rfl, -⟩⟩, -, -, -⟩ := hr
  generalize hcv : Lx.checkV x = cv at HCK
  have HV := Lib.hid hcv
  clear hcv
  go_enter Tryz.func41, Tryz.ntmps41
  go_wp2_with fail
  refine (HCK.out _ ((Below.refl _ _).alloc (Nat.le_refl _) _)).mono ?_
  rintro e1 w1 ⟨rfl, hb1⟩
  have HB1 := Lib.hid (((Below.refl w.heap.size w).alloc (Nat.le_refl _) _).trans (hb1.mono (by simp)))
  clear hb1
  by_cases hz : cv = 0
  · have hq : (cv == 0) = true := by simp [hz]
    have hq' : (cv != 0) = false := by simp [hz]
    have HZ := Lib.hid hz
    clear hz
    cases hso : Lx.soundsB s 64
    · have HF : Hid (Lx.speechV x s = 4) := Lib.hid (by unfold Lx.speechV; rw [HV.out, HZ.out, hso]; rfl)
      have HS := Lib.hid hso
      clear hso
      go_wp2_with fail
      refine (sounds_any _ _ _ hs).mono ?_
      rw [HS.out]
      rintro e2 w2 ⟨rfl, hb2⟩
      have HB2 := Lib.hid (HB1.out.trans (hb2.mono HB1.out.size))
      clear hb2
      go_wp2_with fail
      go_ret
      exact ⟨ret_int HF.out.symm, HB2.out⟩
    · have HF : Hid (Lx.speechV x s = 0) := Lib.hid (by unfold Lx.speechV; rw [HV.out, HZ.out, hso]; rfl)
      have HS := Lib.hid hso
      clear hso
      go_wp2_with fail
      refine (sounds_any _ _ _ hs).mono ?_
      rw [HS.out]
      rintro e2 w2 ⟨rfl, hb2⟩
      have HB2 := Lib.hid (HB1.out.trans (hb2.mono HB1.out.size))
      clear hb2
      go_wp2_with fail
      go_ret
      exact ⟨ret_int HF.out.symm, HB2.out⟩
  · have hq : (cv == 0) = false := by simp [hz]
    have hq' : (cv != 0) = true := by simp [hz]
    have HF : Hid (Lx.speechV x s = cv) := Lib.hid (by unfold Lx.speechV; rw [HV.out, if_pos hz])
    clear hz
    go_wp2_with fail
    go_ret
    exact ⟨ret_int HF.out.symm, HB1.out⟩
end Go.Proofs.YtpmnpnlfgfleeaaGreatDoor
namespace Go.Proofs.YtpmnpnlfgfleeaaGreatDoor
open Go.RowKit

theorem flat_int (cs : List Int) : cs.flatMap encInt = cs.map (Value.int .i64) := by
  induction cs with
  | nil => rfl
  | cons c r ih => rw [List.flatMap_cons, List.map_cons, ih]; rfl

theorem cloneInt_any (v : Value) (cs : List Int) (w : World) (B : Nat) (h : RdS w B 1 encInt v cs) (hlen : cs.length ≤ 1000000) :
    Calls Tryz.prog 65 #[v] w (fun e w' => ∃ v', e = .returned v' ∧ w'.ownsRow w.heap.size 3 1 v' cs.length (cs.flatMap encInt) ∧ Below w.heap.size w w') := by
  obtain ⟨A, c, rfl, hl, hc, hh⟩ := h
  cases A with
  | none =>
    have h0 : cs = [] := by
      cases cs with
      | nil => rfl
      | cons y r =>
        obtain ⟨b, off, h, _⟩ := hh (by simp)
        cases h
    subst h0
    refine (Tryz.slices_Clone_int_nil _ _ w).mono ?_
    rintro e w' ⟨rfl, rfl⟩
    exact ⟨_, rfl, World.ownsRow_nil _ _ _ _, Below.refl _ _⟩
  | some a =>
    by_cases h0 : cs.length = 0
    · have h0' : cs = [] := List.eq_nil_of_length_eq_zero h0
      subst h0'
      refine (Tryz.slices_Clone_int_zero _ _ w).mono ?_
      rintro e w' ⟨v', rfl, hown, _, hb⟩
      exact ⟨_, rfl, hown, hb⟩
    · obtain ⟨b, off, hA, _, hcell⟩ := hh (by omega)
      cases hA
      refine (Tryz.slices_Clone_int b off cs.length c cs w (Nat.le_refl _) (by omega) (fun j hj => ?_)).mono ?_
      · have := hcell j cs[j] (List.getElem?_eq_getElem hj) 0 _ rfl
        rw [List.getD_eq_getElem?_getD, List.getElem?_eq_getElem hj]
        simpa using this
      · rintro e w' ⟨v', rfl, hown, _, hb⟩
        refine ⟨_, rfl, ?_, hb⟩
        rw [flat_int]
        simpa using hown
end Go.Proofs.YtpmnpnlfgfleeaaGreatDoor
