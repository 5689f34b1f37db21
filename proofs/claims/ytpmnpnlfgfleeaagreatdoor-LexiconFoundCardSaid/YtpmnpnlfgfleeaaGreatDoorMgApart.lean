/- lexicon.Reach. Made by gen_reach.py. Ways and Reach of the program: all answers. The cuts of a line: what the law of the cuts asks. -/
import Derived.Test.YtpmnpnlfgfleeaaGreatDoorMgWays
import Derived.Test.YtpmnpnlfgfleeaaGreatDoorMgClone
import Derived.Test.YtpmnpnlfgfleeaaGreatDoorMgCutsFine
import Derived.Test.YtpmnpnlfgfleeaaGreatDoorMgRegion4
namespace Go.Proofs.YtpmnpnlfgfleeaaGreatDoor
open Go.RowKit

theorem info_bool : (Tryz.prog.info? 4).map (fun i => (i.zero, i.size, i.bytes)) = some (some (.bool false), 1, 1) := by kernel_rfl

/-- a row of flags -/
def RdBl (w : World) (g n : Nat) (T : Nat → Bool) : Prop := ∃ arr : Array Value, w.heap[g]? = some (.cells arr 4 (0, 0)) ∧ arr.size = n + 1 ∧ ∀ j, j ≤ n → arr[j]? = some (.bool (T j))
theorem RdBl.cell {w : World} {g n : Nat} {T : Nat → Bool} (h : RdBl w g n T) {j : Nat} (hj : j ≤ n) : w.cell? ⟨g, j, none⟩ = some (.bool (T j)) := by
  obtain ⟨arr, h1, _, h3⟩ := h
  simp [World.cell?, h1, h3 j hj]
theorem RdBl.frozen {w : World} {g n : Nat} {T : Nat → Bool} (h : RdBl w g n T) (j : Nat) : w.frozen? ⟨g, j, none⟩ = false := by
  obtain ⟨arr, h1, _, _⟩ := h
  simp [World.frozen?, h1]
theorem RdBl.block {w w' : World} {g n : Nat} {T : Nat → Bool} (h : RdBl w g n T) (hb : w'.heap[g]? = w.heap[g]?) : RdBl w' g n T := by
  obtain ⟨arr, h1, h2⟩ := h
  exact ⟨arr, hb.trans h1, h2⟩
theorem RdBl.set {w : World} {g n : Nat} {T : Nat → Bool} {i : Nat} (h : RdBl w g n T) (hi : i ≤ n) : RdBl (w.setCell ⟨g, i, none⟩ (.bool true)) g n (fun j => T j || decide (i = j)) := by
  obtain ⟨arr, h1, h2, h3⟩ := h
  refine ⟨arr.setIfInBounds i (.bool true), by simp [World.setCell, Array.getElem?_modify, h1], by simpa using h2, fun j hj => ?_⟩
  by_cases hji : i = j
  · subst hji
    rw [set_same (by omega)]
    simp
  · rw [set_other (fun e => hji e.symm), h3 j hj]
    simp [hji]
theorem RdBl.cong {w : World} {g n : Nat} {T T' : Nat → Bool} (h : RdBl w g n T) (he : ∀ j, T j = T' j) : RdBl w g n T' := by
  have : T = T' := funext he
  rwa [← this]



end Go.Proofs.YtpmnpnlfgfleeaaGreatDoor
namespace Go.Proofs.YtpmnpnlfgfleeaaGreatDoor
open Go.RowKit

theorem Lx.ats_ok {x : Lx.Lexicon} {s : ByteArray} (h : Lx.checkV x = 0) : ∀ i, i < s.size → ∀ m ∈ Lx.ats x s i, 1 ≤ m.long ∧ m.long ≤ s.size - i ∧ m.long ≤ 24 := fun i hi m hm => by
  have h1 := Lx.matchesV_fits h m hm
  have h2 := h1.le
  rw [ByteArray.size_extract] at h2
  exact ⟨h1.pos, by omega, Lx.matchesV_far h m hm⟩
def Lx.waysV (x : Lx.Lexicon) (s : ByteArray) : Int := if Lx.speechV x s = 0 then (Lx.wayT (Lx.ats x s) s.size s.size 0 : Nat) else 0
def Lx.farestV (x : Lx.Lexicon) (s : ByteArray) : Int := if Lx.speechV x s = 0 then (Lx.farT (Lx.reachT (Lx.ats x s) s.size) s.size : Nat) else 0
theorem Ways_any (x : Lx.Lexicon) (s : ByteArray) (vx : Value) (w : World) (hr : RdL w w.heap.size vx x) (hs : s.size ≤ 1000) : Calls Tryz.prog 18 #[vx, .string s] w (RetNN (Lx.waysV x s) (Lx.speechV x s) w) := by
  by_cases hz : Lx.speechV x s = 0
  · have h := Ways_good x s vx w hr hz
    have e : Lx.waysV x s = ((Lx.wayT (Lx.ats x s) s.size s.size 0 : Nat) : Int) := by unfold Lx.waysV; rw [if_pos hz]
    rw [e, hz]
    exact h
  · have h := Ways_bad x s vx w hr hs hz
    have e : Lx.waysV x s = 0 := by unfold Lx.waysV; rw [if_neg hz]
    rw [e]
    exact h


end Go.Proofs.YtpmnpnlfgfleeaaGreatDoor
namespace Go.Proofs.YtpmnpnlfgfleeaaGreatDoor
open Go.RowKit

theorem Lx.ats_said {x : Lx.Lexicon} {s : ByteArray} (h : Lx.checkV x = 0) : ∀ i, i < s.size → ∀ m ∈ Lx.ats x s i, 1 ≤ m.long ∧ i + m.long ≤ s.size ∧ (Lx.saidV x m.form).data.toList = (s.data.toList.drop i).take m.long ∧ Lx.formV x m.form = 0 := fun i hi m hm => by
  have h1 := Lx.ats_ok h i hi m hm
  have h2 := Lx.matchesV_said h m hm
  refine ⟨h1.1, by omega, ?_, h2.2⟩
  rw [h2.1, Lib.extract_to_end]
/-- all that the law asks of the cuts -/
structure Lx.Apart (x : Lx.Lexicon) (s : ByteArray) (most : Int) (l : List Lx.Cut) (W R : Nat) : Prop where
  chk : Lx.checkV x = 0
  m1 : 1 ≤ most
  m2 : most ≤ 64
  size : 1 ≤ s.size ∧ s.size ≤ 64
  len : l.length = min most.toNat W
  cnt : W ≤ 1099511627776
  far : 0 < W ↔ R = s.size
  ok : ∀ c ∈ l, Lx.CutOK x s.data.toList c
  few : ∀ c ∈ l, c.1.length ≤ 64
  asc : ∀ (i : Nat) (c d : Lx.Cut), l[i]? = some c → l[i + 1]? = some d → c.2 ≤ d.2 ∧ d.1 ≠ c.1
theorem Lx.apart (x : Lx.Lexicon) (s : ByteArray) (most : Int) (h : Lx.cutsN x s most = 0) : Lx.speechV x s = 0 ∧ Lx.Apart x s most (Lx.cutsR x s most) (Lx.wayT (Lx.ats x s) s.size s.size 0) (Lx.farT (Lx.reachT (Lx.ats x s) s.size) s.size) := by
  have e2 : Lx.cutsR x s most = Lx.cutsP x s most.toNat := by unfold Lx.cutsR; rw [if_pos h]
  unfold Lx.cutsN at h
  have hz : Lx.speechV x s = 0 := by
    by_cases hz : Lx.speechV x s = 0
    · exact hz
    · rw [if_pos hz] at h; exact h
  rw [if_neg (by simp [hz])] at h
  have hw : Lx.withinB most 1 64 = true := by
    cases q : Lx.withinB most 1 64
    · rw [if_pos q] at h; cases h
    · rfl
  have hm : 1 ≤ most ∧ most ≤ 64 := by simpa [Lx.withinB] using hw
  obtain ⟨hchk, hsb⟩ := Lx.speech_parts hz
  obtain ⟨hs1, hs2, -⟩ := Lx.sounds_size hsb
  have hP : Lx.cutsP x s most.toNat = (Lx.tabT x (Lx.putT most.toNat) (Lx.ats x s) s.size s.size 0).map Lx.cutOf := rfl
  have hat := Lx.ats_said (s := s) hchk
  have hdiff := Lx.tab_diff (x := x) (most := most.toNat) (ats := Lx.ats x s) (n := s.size) (fun i => Lx.matchesV_other) s.size 0
  have hasc := Lx.tab_ascT (x := x) (most := most.toNat) (ats := Lx.ats x s) (n := s.size) s.size 0
  refine ⟨hz, hchk, hm.1, hm.2, ⟨hs1, hs2⟩, ?_, Lx.wayT_le _ _, Lx.ways_reach hs1 (fun i hi m hm => ⟨(hat i hi m hm).1, (hat i hi m hm).2.1⟩), ?_, ?_, ?_⟩
  · rw [e2, hP, List.length_map]
    exact Lx.tab_count (by omega) (by simp [Lx.cnt]; omega) _ _
  · intro c hc
    rw [e2, hP] at hc
    obtain ⟨u, hu, rfl⟩ := List.mem_map.1 hc
    have := Lx.tab_said (x := x) (most := most.toNat) (ats := Lx.ats x s) (n := s.size) (t := s.data.toList) rfl hat s.size (Nat.le_refl _) 0 (Nat.zero_le _) u hu
    simpa using this
  · intro c hc
    rw [e2, hP] at hc
    obtain ⟨u, hu, rfl⟩ := List.mem_map.1 hc
    have := Lx.tab_tlen (x := x) (put := Lx.putT most.toNat) (ats := Lx.ats x s) (n := s.size) (fun l t y h => Lx.putT_mem h) s.size 0 u hu
    show (u.map (·.2)).length ≤ 64
    rw [List.length_map]
    omega
  · intro i c d hc hd
    rw [e2, hP] at hc hd
    obtain ⟨h1, rfl⟩ := List.getElem?_eq_some_iff.1 hc
    obtain ⟨h2, rfl⟩ := List.getElem?_eq_some_iff.1 hd
    unfold Lx.AscT Lx.Asc at hasc
    rw [List.pairwise_iff_getElem] at hasc hdiff
    exact ⟨Lx.rb_weight (hasc i (i + 1) h1 h2 (by omega)), fun e => hdiff i (i + 1) h1 h2 (by omega) e.symm⟩
theorem Lx.cutsR_none {x : Lx.Lexicon} {s : ByteArray} {most : Int} (h : Lx.cutsN x s most ≠ 0) : Lx.cutsR x s most = [] := by unfold Lx.cutsR; rw [if_neg h]
/-- the sounds and the weight of the first k forms -/
theorem Lx.saidAll_succ {x : Lx.Lexicon} {l : List Lx.Form} {k : Nat} {f : Lx.Form} (h : l[k]? = some f) : Lx.saidAll x (l.take (k + 1)) = Lx.saidAll x (l.take k) ++ (Lx.saidV x f).data.toList := by
  obtain ⟨hb, rfl⟩ := List.getElem?_eq_some_iff.1 h
  unfold Lx.saidAll
  rw [List.take_succ_eq_append_getElem hb, List.flatMap_append]
  simp
theorem Lx.heavyAll_succ {x : Lx.Lexicon} {l : List Lx.Form} {k : Nat} {f : Lx.Form} (h : l[k]? = some f) : Lx.heavyAll x (l.take (k + 1)) = Lx.heavyAll x (l.take k) + Lx.heavyV x f := by
  obtain ⟨hb, rfl⟩ := List.getElem?_eq_some_iff.1 h
  unfold Lx.heavyAll
  rw [List.take_succ_eq_append_getElem hb, List.map_append, List.sum_append]
  simp
theorem Lx.saidAll_le {x : Lx.Lexicon} (l : List Lx.Form) (k : Nat) : (Lx.saidAll x (l.take k)).length ≤ (Lx.saidAll x l).length := by
  have e : Lx.saidAll x l = Lx.saidAll x (l.take k) ++ Lx.saidAll x (l.drop k) := by
    unfold Lx.saidAll
    rw [← List.flatMap_append, List.take_append_drop]
  rw [e, List.length_append]
  omega
/-- an operation whose guard does not hold -/
theorem wpOp_idle {P : Program} {ops : Array Oper} {Q : Exit → Act → World → Prop} {i : Nat} {o : Oper} {K : Act → World → Prop} {a : Act} {w : World} (ho : ops[i]? = some o) (hg : Region.wanted o (yielded ops a.tmps) = false) (h : K (a.put o.dst undef) w) : wpOp P ops Q i K a w := by
  unfold wpOp
  rw [ho]
  simp only [hg]
  exact h
theorem unwanted_of {ops : Array Oper} {t : Array Value} {o : Oper} {g d : Nat} {b c : Bool} (hg : o.guard = some (g, b)) (hx : (ops[g]?).bind (·.dst) = some d) (h : t[d]? = some (.bool c)) (hb : c ≠ b) : Region.wanted o (yielded ops t) = false := by
  simp [Region.wanted, hg, yielded, hx, h, hb]
end Go.Proofs.YtpmnpnlfgfleeaaGreatDoor
