/- ostraconref01.Lines, ostraconref05.full. A lexicon that is being read: its cell and its three rows, of the call's own. As XRegion2, the frame handed to the relation. Short words for the steps of a region. -/
import Derived.Test.YtpmnpnlfgfleeaaGreatDoorMgNumber
import Derived.Test.YtpmnpnlfgfleeaaGreatDoorMgClos
import Derived.Test.YtpmnpnlfgfleeaaGreatDoorMgMem
import Derived.Test.YtpmnpnlfgfleeaaGreatDoorMgClone
import Derived.Test.YtpmnpnlfgfleeaaGreatDoorMgRTails
import Derived.Test.YtpmnpnlfgfleeaaGreatDoorMgCopied
namespace Go.Proofs.YtpmnpnlfgfleeaaGreatDoor
open Go Go.RowKit

/-- the lines, and whether the last one ends -/
def Lx.linesV (l : List UInt8) : List (List UInt8) × Bool := if (Lib.split l [10]).getLast? = some [] then ((Lib.split l [10]).dropLast, true) else (Lib.split l [10], false)
/-- words of a piece of memory, and a truth value -/
def RetWB (q : List (List UInt8)) (b : Bool) (w : World) (e : Ending) (w' : World) : Prop := ∃ v, ∃ l : List ByteArray, e = .returned (.tuple #[v, .bool b]) ∧ RdS w' w'.heap.size 1 encStr v l ∧ l.map (·.data.toList) = q ∧ Below w.heap.size w w'
theorem Lx.split_ne (l : List UInt8) (c : UInt8) : Lib.split l [c] ≠ [] := by rw [Lx.pst_split]; simp
def Lx.fullV (l : List ByteArray) : Bool := l.all fun b => !decide (b.data.toList = [])
theorem ba_empty {b : ByteArray} (h : b.data.toList = []) : b = ⟨#[]⟩ := by
  obtain ⟨⟨l⟩⟩ := b
  simp at h
  subst h
  rfl
theorem empty_not {s : ByteArray} (h : ¬ s.data.toList = []) : s.toList.isEmpty = false := by
  rw [Go.Lib.toList_data]
  cases e : s.data.toList with
  | nil => exact absurd e h
  | cons a l => rfl

/-- the last word is the empty one -/
theorem RetWB.of {v : Value} {l : List ByteArray} {w w' : World} {q : List (List UInt8)} {b c : Bool} (hr : RdS w' w'.heap.size 1 encStr v l) (hb : Below w.heap.size w w') (hq : l.map (·.data.toList) = q) (hc : c = b) : RetWB q b w (.returned (.tuple #[v, .bool c])) w' := ⟨v, l, by rw [hc], hr, hq, hb⟩
set_option maxRecDepth 100000 in
set_option maxHeartbeats 2000000 in
theorem r1Lines_any (t : ByteArray) (w : World) (ht : t.size ≤ 1000000) : Calls Tryz.prog 48 #[.string t] w (RetWB (Lx.linesV t.data.toList).1 (Lx.linesV t.data.toList).2 w) := by
  go_enter Tryz.func48, Tryz.ntmps48
  go_wp2_with fail
  refine (r1Split_any t 10 _ ht).mono ?_
  rintro e w1 ⟨v, l, rfl, hown, hq, hbel⟩
  have hne : l ≠ [] := fun h => by rw [h] at hq; exact Lx.split_ne _ _ hq.symm
  have hpos : 0 < l.length := List.length_pos_iff.2 hne
  have hRD := rds_of_own len_str hown
  have hl1 : l.length ≤ 1000001 := by
    have h1 := congrArg List.length hq
    rw [List.length_map, Lx.pst_split, List.length_append, List.length_singleton] at h1
    have h2 := Lx.pst_count 10 t.data.toList
    have h3 : t.data.toList.length = t.size := rfl
    omega
  obtain ⟨A, c, rfl, hlc, hc, hh⟩ := id hRD
  obtain ⟨b, off, rfl, hb, hcell⟩ := hh hpos
  obtain ⟨s, hs⟩ : ∃ s, s = l[l.length - 1] := ⟨_, rfl⟩
  have hk1 : l[l.length - 1]? = some s := by rw [hs]; exact List.getElem?_eq_getElem (by omega)
  have hidx : (l.length : Int) - 1 = ((l.length - 1 : Nat) : Int) := by omega
  have hc0 : w1.cell? ⟨b, off + (l.length - 1), none⟩ = some (.string s) := by
    have := hcell (l.length - 1) s hk1 0 (.string s) rfl
    simpa using this
  obtain ⟨m, hm⟩ : ∃ m, m = l.length - 1 := ⟨_, rfl⟩
  rw [← hm] at hidx hc0 hk1
  have hml : m < l.length := by omega
  have hlast : (Lib.split t.data.toList [10]).getLast? = some s.data.toList := by
    rw [← hq, List.getLast?_map, List.getLast?_eq_getElem?, ← hm, hk1]
    rfl
  have HRD := Lib.hid hRD
  have HB := Lib.hid hbel
  have HQ := Lib.hid hq
  have HM := Lib.hid hm
  have HLAST := Lib.hid hlast
  clear hown hq hbel hRD hcell hh hm hs hk1 hlast hne
  by_cases he : s = ⟨#[]⟩
  · subst he
    have HV : Hid (Lx.linesV t.data.toList = ((Lib.split t.data.toList [10]).dropLast, true)) := Lib.hid (by unfold Lx.linesV; rw [if_pos HLAST.out])
    go_wp2_with fail
    go_ret2
    exact RetWB.of (v := .slice (some ⟨b, off, none⟩) m c) (l := l.take m) (c := true) (rds_take HRD.out (by omega)) HB.out (by rw [HV.out, ← HQ.out, List.map_take, HM.out, List.dropLast_eq_take, List.length_map]) (by rw [HV.out])
  · have hb1 : s.toList.isEmpty = false := empty_not fun e => he (ba_empty e)
    have HV : Hid (Lx.linesV t.data.toList = (Lib.split t.data.toList [10], false)) := Lib.hid (by
      unfold Lx.linesV
      rw [if_neg]
      rw [HLAST.out]
      intro e
      exact he (ba_empty (Option.some.inj e)))
    go_wp2_with fail
    go_ret2
    exact RetWB.of (v := .slice (some ⟨b, off, none⟩) l.length c) (l := l) (c := false) HRD.out HB.out (by rw [HV.out, ← HQ.out]) (by rw [HV.out])

set_option maxRecDepth 100000 in
set_option maxHeartbeats 2000000 in
theorem rfull_any (v : Value) (l : List ByteArray) (w : World) (h : RdS w w.heap.size 1 encStr v l) (hl : l.length ≤ 1000001) : Calls Tryz.prog 83 #[v] w (RetB (Lx.fullV l) w) := by
  obtain ⟨A, c, rfl, hlc, hc, hh⟩ := h
  have HH := Lib.hid hh
  clear hh
  go_enter Tryz.func83, Tryz.ntmps83
  go_wp2_with fail
  go_loop [3] (fun q => ∃ k : Nat, k ≤ l.length ∧ q = .int .i64 k ∧ Lx.fullV (l.take k) = true) (fun q => l.length - (intOf q).toNat)
  case atStart => exact ⟨0, Nat.zero_le _, rfl, rfl⟩
  case round =>
    obtain ⟨k, hk, rfl, hal⟩ := hrel
    have HAL := Lib.hid hal
    clear hal
    by_cases hlt : k < l.length
    · obtain ⟨b, off, rfl, hb, hcell⟩ := HH.out (by omega)
      have hk1 : l[k]? = some l[k] := List.getElem?_eq_getElem hlt
      have hc0 : w.cell? ⟨b, off + k, none⟩ = some (.string l[k]) := by
        have := hcell k l[k] hk1 0 (.string l[k]) rfl
        simpa using this
      clear hcell
      obtain ⟨s, hs⟩ : ∃ s, s = l[k] := ⟨_, rfl⟩
      rw [← hs] at hc0 hk1
      have HS := Lib.hid hs
      have HK1 := Lib.hid hk1
      clear hs hk1
      by_cases he : s = ⟨#[]⟩
      · subst he
        have HB : Hid ((Lx.fullV l) = false) := Lib.hid (by
          unfold Lx.fullV
          rw [List.all_eq_false]
          exact ⟨_, List.mem_of_getElem? HK1.out, by simp⟩)
        go_wp2_with fail
        go_ret
        exact ⟨ret_bool HB.out.symm, rfl⟩
      · have hb1 : s.toList.isEmpty = false := empty_not fun e => he (ba_empty e)
        have HNX : Hid (Lx.fullV (l.take (k + 1)) = true) := Lib.hid (by
          have hh := HAL.out
          unfold Lx.fullV at hh ⊢
          rw [List.take_succ_eq_append_getElem hlt, List.all_append, hh, ← HS.out]
          have : ¬ s.data.toList = [] := fun e => he (ba_empty e)
          show (true && (!decide (s.data.toList = []) && true)) = true
          rw [decide_eq_false this]
          rfl)
        go_wp2_with fail
        refine ⟨⟨k + 1, hlt, rfl, HNX.out⟩, ?_⟩
        have e1 : (intOf (Value.int .i64 ((k : Int) + 1))).toNat = k + 1 := by show ((k : Int) + 1).toNat = _; omega
        have e2 : (intOf (Value.int .i64 (k : Int))).toNat = k := Int.toNat_natCast k
        omega
    · have hkt : k = l.length := by omega
      have HB : Hid ((Lx.fullV l) = true) := Lib.hid (by
        have := HAL.out
        rwa [List.take_of_length_le (by omega)] at this)
      go_wp2_with fail
      go_ret
      exact ⟨ret_bool HB.out.symm, rfl⟩
end Go.Proofs.YtpmnpnlfgfleeaaGreatDoor
namespace Go.Proofs.YtpmnpnlfgfleeaaGreatDoor
open Go Go.RowKit

/-- what a byte list is as text -/
def Lx.bs (l : List UInt8) : ByteArray := ⟨l.toArray⟩
theorem Lx.bs_data (b : ByteArray) : Lx.bs b.data.toList = b := rfl
theorem Lx.bs_list (l : List UInt8) : (Lx.bs l).data.toList = l := rfl
def Lx.dash (l : List UInt8) : List UInt8 := if l = [45] then [] else l
/-- what the reference's line makes of the words of a line -/
def Lx.lineV (x : Lx.Lexicon) (ws : List (List UInt8)) : Option Lx.Lexicon :=
  if ws.any (fun a => decide (a = [])) then none else
  match ws with
  | [a, b, c, d, e] =>
    if a = [119, 111, 114, 100] ∧ x.endings.length = 0 ∧ x.clitics.length = 0 then
      (if Lx.numB c 4 = true ∧ Lx.numB e 4 = true then some ⟨x.entries ++ [⟨Lx.bs b, Lx.numV c 4, Lx.bs (Lx.dash d), Lx.numV e 4⟩], x.endings, x.clitics⟩ else none)
    else if a = [101, 110, 100, 105, 110, 103] ∧ x.clitics.length = 0 then
      (if Lx.numB b 4 = true ∧ Lx.numB e 4 = true then some ⟨x.entries, x.endings ++ [⟨Lx.numV b 4, Lx.bs c, Lx.bs d, Lx.numV e 4⟩], x.clitics⟩ else none)
    else none
  | [a, b, c, d] => if a = [99, 108, 105, 116, 105, 99] ∧ Lx.numB d 4 = true then some ⟨x.entries, x.endings, x.clitics ++ [⟨Lx.bs b, Lx.bs c, Lx.numV d 4⟩]⟩ else none
  | _ => none

structure LexRows (w : World) (B : Nat) (v0 v1 v2 : Value) (x : Lx.Lexicon) : Prop where
  o0 : w.ownsRow B 57 4 v0 x.entries.length (x.entries.flatMap encEntry)
  o1 : w.ownsRow B 55 4 v1 x.endings.length (x.endings.flatMap encEnding)
  o2 : w.ownsRow B 65 3 v2 x.clitics.length (x.clitics.flatMap encClitic)
  fe : ∀ e ∈ x.entries, Lx.Entry.fits e
  fn : ∀ e ∈ x.endings, Lx.Ending.fits e
  fc : ∀ e ∈ x.clitics, Lx.Clitic.fits e
def LexOwn (w : World) (b : Nat) (x : Lx.Lexicon) : Prop := ∃ v0 v1 v2, w.heap[b]? = some (.cells #[v0, v1, v2] 26 (0, 0)) ∧ LexRows w (b + 1) v0 v1 v2 x
theorem LexRows.below {w w' : World} {B : Nat} {v0 v1 v2 : Value} {x : Lx.Lexicon} (h : LexRows w B v0 v1 v2 x) (hb : Below w.heap.size w w') : LexRows w' B v0 v1 v2 x :=
  ⟨keep_own h.o0 hb, keep_own h.o1 hb, keep_own h.o2 hb, h.fe, h.fn, h.fc⟩
theorem LexRows.store {w : World} {B : Nat} {v0 v1 v2 : Value} {x : Lx.Lexicon} (h : LexRows w B v0 v1 v2 x) {a : Addr} (ha : a.block < B) (u : Value) : LexRows (w.setCell a u) B v0 v1 v2 x :=
  ⟨ownsRow_setCell_below h.o0 ha u, ownsRow_setCell_below h.o1 ha u, ownsRow_setCell_below h.o2 ha u, h.fe, h.fn, h.fc⟩
theorem LexRows.nil (w : World) (B : Nat) : LexRows w B (.slice none 0 0) (.slice none 0 0) (.slice none 0 0) ⟨[], [], []⟩ :=
  ⟨World.ownsRow_nil _ _ _ _, World.ownsRow_nil _ _ _ _, World.ownsRow_nil _ _ _ _, fun _ h => by simp at h, fun _ h => by simp at h, fun _ h => by simp at h⟩
theorem LexRows.rd {w : World} {B : Nat} {v0 v1 v2 : Value} {x : Lx.Lexicon} (h : LexRows w B v0 v1 v2 x) : RdL w w.heap.size (.agg #[v0, v1, v2]) x :=
  ⟨⟨v0, v1, v2, rfl, rds_of_own len_entry h.o0, rds_of_own len_ending h.o1, rds_of_own len_clitic h.o2⟩, h.fe, h.fn, h.fc⟩
theorem LexOwn.below {w w' : World} {b : Nat} {x : Lx.Lexicon} (h : LexOwn w b x) (hb : Below w.heap.size w w') : LexOwn w' b x := by
  obtain ⟨v0, v1, v2, hc, hr⟩ := h
  have hlt : b < w.heap.size := by
    refine Decidable.byContradiction fun hn => ?_
    rw [Array.getElem?_eq_none (by omega)] at hc
    cases hc
  exact ⟨v0, v1, v2, (hb.block b hlt).trans hc, hr.below hb⟩
/-- entries grow -/
theorem LexRows.grow0 {w w' : World} {B : Nat} {v0 v1 v2 v0' : Value} {x : Lx.Lexicon} (h : LexRows w B v0 v1 v2 x) {e : Lx.Entry} (he : Lx.Entry.fits e) (ho : w'.ownsRow B 57 4 v0' (x.entries.length + 1) (x.entries.flatMap encEntry ++ encEntry e)) (hg : w.grownBy w' v0.ownBlock) :
    LexRows w' B v0' v1 v2 ⟨x.entries ++ [e], x.endings, x.clitics⟩ :=
  ⟨by rw [List.length_append, List.flatMap_append, List.flatMap_singleton]; exact ho, h.o1.kept hg (own_apart h.o1 h.o0 (by decide)), h.o2.kept hg (own_apart h.o2 h.o0 (by decide)),
    fun y hy => by rcases List.mem_append.1 hy with q | q; exact h.fe y q; simp at q; subst q; exact he, h.fn, h.fc⟩
theorem LexRows.grow1 {w w' : World} {B : Nat} {v0 v1 v2 v1' : Value} {x : Lx.Lexicon} (h : LexRows w B v0 v1 v2 x) {e : Lx.Ending} (he : Lx.Ending.fits e) (ho : w'.ownsRow B 55 4 v1' (x.endings.length + 1) (x.endings.flatMap encEnding ++ encEnding e)) (hg : w.grownBy w' v1.ownBlock) :
    LexRows w' B v0 v1' v2 ⟨x.entries, x.endings ++ [e], x.clitics⟩ :=
  ⟨h.o0.kept hg (own_apart h.o0 h.o1 (by decide)), by rw [List.length_append, List.flatMap_append, List.flatMap_singleton]; exact ho, h.o2.kept hg (own_apart h.o2 h.o1 (by decide)),
    h.fe, fun y hy => by rcases List.mem_append.1 hy with q | q; exact h.fn y q; simp at q; subst q; exact he, h.fc⟩
theorem LexRows.grow2 {w w' : World} {B : Nat} {v0 v1 v2 v2' : Value} {x : Lx.Lexicon} (h : LexRows w B v0 v1 v2 x) {e : Lx.Clitic} (he : Lx.Clitic.fits e) (ho : w'.ownsRow B 65 3 v2' (x.clitics.length + 1) (x.clitics.flatMap encClitic ++ encClitic e)) (hg : w.grownBy w' v2.ownBlock) :
    LexRows w' B v0 v1 v2' ⟨x.entries, x.endings, x.clitics ++ [e]⟩ :=
  ⟨h.o0.kept hg (own_apart h.o0 h.o2 (by decide)), h.o1.kept hg (own_apart h.o1 h.o2 (by decide)), by rw [List.length_append, List.flatMap_append, List.flatMap_singleton]; exact ho,
    h.fe, h.fn, fun y hy => by rcases List.mem_append.1 hy with q | q; exact h.fc y q; simp at q; subst q; exact he⟩
/-- what the reading of a line leaves -/
def RetLine (b : Nat) (q : Option Lx.Lexicon) (w : World) (e : Ending) (w' : World) : Prop := e = .returned (.bool q.isSome) ∧ Below b w w' ∧ ∀ x', q = some x' → LexOwn w' b x'
end Go.Proofs.YtpmnpnlfgfleeaaGreatDoor
namespace Go.Proofs.YtpmnpnlfgfleeaaGreatDoor
open Go Go.RowKit
theorem wp_region_inv2T {P : Program} {id : Nat} {l : List Oper} {t : Array Value} {df : List Deferred} {w : World} {Q : Exit → Act → World → Prop} (I : Array Value → Array Bool → Act → World → Prop) (hm : P.follows .mixedOrders = true) (ht : tidyOps2 .any l.toArray = true)
    (h0 : I t (Array.replicate l.length false) ⟨t, df⟩ w.drew)
    (hstep : ∀ t0 d a w i, d.size = l.length → I t0 d a w → i ∈ Region.ready .any l.toArray d → wpOp P l.toArray Q i (I t0 (d.setIfInBounds i true)) a w)
    (hend : ∀ d a w, d.size = l.length → I t d a w → (∀ i, i < l.length → d.getD i true = true) → Q .normal a w) :
    (Code.region id l.toArray true).wp P Q ⟨t, df⟩ w := wp_region_inv2 (I t) hm ht h0 (hstep t) hend
end Go.Proofs.YtpmnpnlfgfleeaaGreatDoor
namespace Go.Proofs.YtpmnpnlfgfleeaaGreatDoor
open Go Go.RowKit
theorem rs {t : Array Value} {k m : Nat} {u v : Value} (h : t[k]? = some v) (f : k ≠ m := by decide) : (t.setIfInBounds m u)[k]? = some v := (set_other f).trans h
theorem rp {d : Array Bool} {i j : Nat} {t : Array Value} {k m : Nat} {u v : Value} (hi : i < d.size) (h : dn d j → t[k]? = some v) (e : j ≠ i := by decide) (f : k ≠ m := by decide) : dn (d.setIfInBounds i true) j → (t.setIfInBounds m u)[k]? = some v :=
  fun hj => (set_other f).trans (h (dn_of hi hj e))
theorem rn {d : Array Bool} {i j : Nat} {P : Prop} (hi : i < d.size) (h : dn d j → P) (e : j ≠ i := by decide) : dn (d.setIfInBounds i true) j → P := fun hj => h (dn_of hi hj e)
theorem rc {d : Array Bool} {i j : Nat} {t : Array Value} {k m : Nat} {u : Value} {R R' : Value → Prop} (hi : i < d.size) (h : dn d j → ∃ v, t[k]? = some v ∧ R v) (g : ∀ v, R v → R' v) (e : j ≠ i := by decide) (f : k ≠ m := by decide) :
    dn (d.setIfInBounds i true) j → ∃ v, (t.setIfInBounds m u)[k]? = some v ∧ R' v := fun hj => by
  obtain ⟨v, h1, h2⟩ := h (dn_of hi hj e)
  exact ⟨v, (set_other f).trans h1, g v h2⟩
theorem rcn {d : Array Bool} {i j : Nat} {t : Array Value} {k : Nat} {R R' : Value → Prop} (hi : i < d.size) (h : dn d j → ∃ v, t[k]? = some v ∧ R v) (g : ∀ v, R v → R' v) (e : j ≠ i := by decide) :
    dn (d.setIfInBounds i true) j → ∃ v, t[k]? = some v ∧ R' v := fun hj => by
  obtain ⟨v, h1, h2⟩ := h (dn_of hi hj e)
  exact ⟨v, h1, g v h2⟩
theorem rk {t T0 : Array Value} {l : List Nat} {m : Nat} {u : Value} (h : ∀ i, i ∉ l → t[i]? = T0[i]?) (hm : m ∈ l := by decide) : ∀ i, i ∉ l → (t.setIfInBounds m u)[i]? = T0[i]? :=
  fun i hi => (set_other (fun e => hi (by rw [e]; exact hm))).trans (h i hi)
/-- these slots hold these values -/
def Held (t : Array Value) : List (Nat × Value) → Prop
  | [] => True
  | p :: r => t[p.1]? = some p.2 ∧ Held t r
theorem held_set : ∀ (l : List (Nat × Value)) (t A : Array Value), A.size = t.size → (∀ i, i ∉ l.map (·.1) → A[i]? = t[i]?) → Held t l → l.foldl (fun a p => a.setIfInBounds p.1 p.2) A = t
  | [], t, A, _, hk, _ => by
    refine Array.ext_getElem? fun i => ?_
    exact hk i (by simp)
  | p :: r, t, A, hs, hk, hw => by
    rw [List.foldl_cons]
    refine held_set r t _ (by simpa using hs) (fun i hi => ?_) hw.2
    by_cases e : i = p.1
    · subst e
      have hlt := (Array.getElem?_eq_some_iff.1 hw.1).1
      rw [set_same (by omega), hw.1]
    · rw [set_other e]
      exact hk i (by simp only [List.map_cons, List.mem_cons, not_or]; exact ⟨e, hi⟩)
/-- the frame behind a region -/
theorem frame_eq {t T0 : Array Value} {wl : List Nat} (l : List (Nat × Value)) (hs : t.size = T0.size) (hk : ∀ i, i ∉ wl → t[i]? = T0[i]?) (hm : wl.all (fun i => l.any fun p => p.1 == i) = true) (hw : Held t l) : t = l.foldl (fun a p => a.setIfInBounds p.1 p.2) T0 := by
  refine (held_set l t T0 hs.symm (fun i hi => (hk i (fun h => hi ?_)).symm) hw).symm
  have := List.all_eq_true.1 hm i h
  rw [List.any_eq_true] at this
  obtain ⟨p, hp, e⟩ := this
  have e' : p.1 = i := by simpa using e
  rw [← e']
  exact List.mem_map_of_mem hp
end Go.Proofs.YtpmnpnlfgfleeaaGreatDoor
