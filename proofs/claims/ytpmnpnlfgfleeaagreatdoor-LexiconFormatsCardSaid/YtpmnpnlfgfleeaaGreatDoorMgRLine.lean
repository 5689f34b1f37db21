/- ostraconref05.line. -/
import Derived.Test.YtpmnpnlfgfleeaaGreatDoorMgRegion4
import Derived.Test.YtpmnpnlfgfleeaaGreatDoorMgParseIdx
namespace Go.Proofs.YtpmnpnlfgfleeaaGreatDoor
open Go Go.RowKit

theorem Lx.lineV_full {x : Lx.Lexicon} {l : List ByteArray} (h : Lx.fullV l = false) : Lx.lineV x (l.map (·.data.toList)) = none := by
  unfold Lx.lineV
  rw [if_pos]
  unfold Lx.fullV at h
  rw [List.all_eq_false] at h
  obtain ⟨b, hb, h⟩ := h
  rw [List.any_eq_true]
  exact ⟨b.data.toList, List.mem_map.2 ⟨b, hb, rfl⟩, by simpa using h⟩
theorem Lx.lineV_len {x : Lx.Lexicon} {ws : List (List UInt8)} (h4 : ws.length ≠ 4) (h5 : ws.length ≠ 5) : Lx.lineV x ws = none := by
  unfold Lx.lineV
  split
  · rfl
  · split
    · simp at h5
    · simp at h4
    · rfl
theorem Lx.lineV_num {x : Lx.Lexicon} {ws : List (List UInt8)} {s : List UInt8} (hs : ws[ws.length - 1]? = some s) (h : Lx.numB s 4 = false) : Lx.lineV x ws = none := by
  unfold Lx.lineV
  split
  · rfl
  · split
    · simp at hs
      subst hs
      simp [h]
    · simp at hs
      subst hs
      simp [h]
    · rfl
theorem Lx.lineV_ok {l : List ByteArray} (h : Lx.fullV l = true) : ((l.map (·.data.toList)).any fun a => decide (a = [])) = false := by
  unfold Lx.fullV at h
  rw [List.all_eq_true] at h
  rw [List.any_eq_false]
  intro a ha
  obtain ⟨b, hb, rfl⟩ := List.mem_map.1 ha
  simpa using h b hb
theorem Lx.split_le {c : UInt8} {l a : List UInt8} (h : a ∈ Lib.split l [c]) : a.length ≤ l.length := by
  rw [Lx.pst_split] at h
  obtain ⟨a0, ws, e1, e2, -, -⟩ := Lx.pst_join c l
  rw [e1] at h
  have hw : ∀ (ws : List (List UInt8)) (a : List UInt8), a ∈ ws → a.length ≤ (ws.flatMap (c :: ·)).length := by
    intro ws
    induction ws with
    | nil => intro a h; simp at h
    | cons w ws ih =>
      intro a h
      rw [List.flatMap_cons, List.length_append]
      rcases List.mem_cons.1 h with rfl | h
      · simp; omega
      · have := ih a h; omega
  have e3 := congrArg List.length e2
  rw [List.length_append] at e3
  rcases List.mem_cons.1 h with rfl | h
  · omega
  · have := hw ws a h; omega
theorem list5 {α : Type} {l : List α} (h : l.length = 5) : ∃ a b c d e, l = [a, b, c, d, e] := by
  match l, h with
  | [a, b, c, d, e], _ => exact ⟨a, b, c, d, e, rfl⟩
theorem list4 {α : Type} {l : List α} (h : l.length = 4) : ∃ a b c d, l = [a, b, c, d] := by
  match l, h with
  | [a, b, c, d], _ => exact ⟨a, b, c, d, rfl⟩
theorem lex_cells {w : World} {b : Nat} {v0 v1 v2 : Value} {t : TypeId} (h : w.heap[b]? = some (.cells #[v0, v1, v2] t (0, 0))) : w.cell? ⟨b, 0, none⟩ = some v0 ∧ w.cell? ⟨b, 1, none⟩ = some v1 ∧ w.cell? ⟨b, 2, none⟩ = some v2 := by
  refine ⟨?_, ?_, ?_⟩ <;> simp [World.cell?, h]
theorem lex_cells6 {w : World} {b : Nat} {v0 v1 v2 : Value} {t : TypeId} (h : w.heap[b]? = some (.cells #[v0, v1, v2] t (0, 0))) :
    w.cell? ⟨b, 0, none⟩ = some v0 ∧ w.cell? ⟨b, 1, none⟩ = some v1 ∧ w.cell? ⟨b, 2, none⟩ = some v2 ∧ w.frozen? ⟨b, 0, none⟩ = false ∧ w.frozen? ⟨b, 1, none⟩ = false ∧ w.frozen? ⟨b, 2, none⟩ = false :=
  ⟨by simp [World.cell?, h], by simp [World.cell?, h], by simp [World.cell?, h], by simp [World.frozen?, h], by simp [World.frozen?, h], by simp [World.frozen?, h]⟩
theorem four_cells {w : World} {b : Nat} {v0 v1 v2 v3 : Value} {t : TypeId} (h : w.heap[b]? = some (.cells #[v0, v1, v2, v3] t (0, 0))) :
    w.cell? ⟨b, 0, none⟩ = some v0 ∧ w.cell? ⟨b, 1, none⟩ = some v1 ∧ w.cell? ⟨b, 2, none⟩ = some v2 ∧ w.cell? ⟨b, 3, none⟩ = some v3 :=
  ⟨by simp [World.cell?, h], by simp [World.cell?, h], by simp [World.cell?, h], by simp [World.cell?, h]⟩
theorem retLine_some {b0 : Nat} {q : Option Lx.Lexicon} {x' : Lx.Lexicon} {b : Bool} {w w' : World} (hq : q = if b = true then some x' else none) (hb : Below b0 w w') (ho : LexOwn w' b0 x') : RetLine b0 q w (.returned (.bool b)) w' := by
  subst hq
  cases b
  · exact ⟨rfl, hb, fun _ h => by cases h⟩
  · exact ⟨rfl, hb, fun y h => by cases h; exact ho⟩
structure LwR (T0 : Array Value) (W0 : World) (Lb Eb : Nat) (v0 v1 v2 : Value) (b1 : ByteArray) (kv : Int) (cls : ByteArray) (nv : Int) (x : Lx.Lexicon) (d : Array Bool) (t : Array Value) (wc : World) : Prop where
  bel : Below Lb W0 wc
  siz : t.size = 158
  kp : ∀ i, i ∉ ([76, 77, 78, 79, 80, 81, 82, 83, 84, 85] : List Nat) → t[i]? = T0[i]?
  k0 : t[0]? = some (.pointer (some ⟨Lb, 0, none⟩))
  k10 : t[10]? = some (.pointer (some ⟨Eb, 0, none⟩))
  p0 : dn d 0 → t[76]? = some (.pointer (some ⟨Lb, 0, none⟩))
  p1 : dn d 1 → t[77]? = some (.pointer (some ⟨Lb, 0, none⟩))
  p2 : dn d 2 → t[78]? = some (.pointer (some ⟨Lb, 0, none⟩))
  p3 : dn d 3 → t[79]? = some (.pointer (some ⟨Lb, 0, none⟩))
  p4 : dn d 4 → t[80]? = some (v0)
  p5 : dn d 5 → t[81]? = some (.agg #[.string b1, .int .i64 kv, .string cls, .int .i64 nv])
  p8 : dn d 8 → t[84]? = some (.pointer (some ⟨Lb, 0, none⟩))
  p9 : dn d 9 → t[85]? = some (.pointer (some ⟨Lb, 0, none⟩))
  oth : ¬ dn d 7 → Below W0.heap.size W0 wc
  sl : dn d 6 → ¬ dn d 7 → ∃ g, t[82]? = some (.slice (some ⟨g, 0, none⟩) 1 1) ∧ RdS wc wc.heap.size 4 encEntry (.slice (some ⟨g, 0, none⟩) 1 1) [⟨b1, kv, cls, nv⟩]
  res : dn d 7 → ∃ u, (¬ dn d 10 → t[83]? = some u ∧ wc.heap[Lb]? = some (.cells #[v0, v1, v2] 26 (0, 0))) ∧ (dn d 10 → wc.heap[Lb]? = some (.cells #[u, v1, v2] 26 (0, 0))) ∧ LexRows wc (Lb + 1) u v1 v2 ⟨x.entries ++ [⟨b1, kv, cls, nv⟩], x.endings, x.clitics⟩
  l7_4 : dn d 7 → dn d 4
  l7_6 : dn d 7 → dn d 6
  l7_5 : dn d 7 → dn d 5
  l6_5 : dn d 6 → dn d 5
  l10_7 : dn d 10 → dn d 7
def LwI (T0 : Array Value) (W0 : World) (Lb Eb : Nat) (v0 v1 v2 : Value) (b1 : ByteArray) (kv : Int) (cls : ByteArray) (nv : Int) (x : Lx.Lexicon) (d : Array Bool) (a : Act) (wc : World) : Prop := ∃ t : Array Value, a = ⟨t, []⟩ ∧ LwR T0 W0 Lb Eb v0 v1 v2 b1 kv cls nv x d t wc
structure LeR (T0 : Array Value) (W0 : World) (Lb : Nat) (v0 v1 v2 : Value) (b off nl c : Nat) (kv : Int) (d1 f1 : ByteArray) (nv : Int) (x : Lx.Lexicon) (d : Array Bool) (t : Array Value) (wc : World) : Prop where
  bel : Below Lb W0 wc
  siz : t.size = 158
  kp : ∀ i, i ∉ ([112, 113, 114, 115, 116, 117, 118, 119, 120, 121, 122, 123, 124, 125, 126, 127, 128, 129] : List Nat) → t[i]? = T0[i]?
  k0 : t[0]? = some (.pointer (some ⟨Lb, 0, none⟩))
  k5 : t[5]? = some (.slice (some ⟨b, off, none⟩) nl c)
  k6 : t[6]? = some (.int .i64 nv)
  k11 : t[11]? = some (.int .i64 kv)
  p0 : dn d 0 → t[112]? = some (.pointer (some ⟨Lb, 0, none⟩))
  p1 : dn d 1 → t[113]? = some (.pointer (some ⟨Lb, 0, none⟩))
  p2 : dn d 2 → t[114]? = some (.pointer (some ⟨Lb, 0, none⟩))
  p3 : dn d 3 → t[115]? = some (.pointer (some ⟨Lb, 1, none⟩))
  p4 : dn d 4 → t[116]? = some (v1)
  p5 : dn d 5 → t[117]? = some (.int .i64 kv)
  p6 : dn d 6 → t[118]? = some (.slice (some ⟨b, off, none⟩) nl c)
  p7 : dn d 7 → t[119]? = some (.pointer (some ⟨b, off + 2, none⟩))
  p8 : dn d 8 → t[120]? = some (.string d1)
  p9 : dn d 9 → t[121]? = some (.slice (some ⟨b, off, none⟩) nl c)
  p10 : dn d 10 → t[122]? = some (.pointer (some ⟨b, off + 3, none⟩))
  p11 : dn d 11 → t[123]? = some (.string f1)
  p12 : dn d 12 → t[124]? = some (.int .i64 nv)
  p13 : dn d 13 → t[125]? = some (.agg #[.int .i64 kv, .string d1, .string f1, .int .i64 nv])
  p16 : dn d 16 → t[128]? = some (.pointer (some ⟨Lb, 0, none⟩))
  p17 : dn d 17 → t[129]? = some (.pointer (some ⟨Lb, 1, none⟩))
  oth : ¬ dn d 15 → Below W0.heap.size W0 wc
  sl : dn d 14 → ¬ dn d 15 → ∃ g, t[126]? = some (.slice (some ⟨g, 0, none⟩) 1 1) ∧ RdS wc wc.heap.size 4 encEnding (.slice (some ⟨g, 0, none⟩) 1 1) [⟨kv, d1, f1, nv⟩]
  res : dn d 15 → ∃ u, (¬ dn d 18 → t[127]? = some u ∧ wc.heap[Lb]? = some (.cells #[v0, v1, v2] 26 (0, 0))) ∧ (dn d 18 → wc.heap[Lb]? = some (.cells #[v0, u, v2] 26 (0, 0))) ∧ LexRows wc (Lb + 1) v0 u v2 ⟨x.entries, x.endings ++ [⟨kv, d1, f1, nv⟩], x.clitics⟩
  l15_4 : dn d 15 → dn d 4
  l15_14 : dn d 15 → dn d 14
  l15_8 : dn d 15 → dn d 8
  l15_11 : dn d 15 → dn d 11
  l14_8 : dn d 14 → dn d 8
  l14_11 : dn d 14 → dn d 11
  l13_8 : dn d 13 → dn d 8
  l13_11 : dn d 13 → dn d 11
  l18_15 : dn d 18 → dn d 15
def LeI (T0 : Array Value) (W0 : World) (Lb : Nat) (v0 v1 v2 : Value) (b off nl c : Nat) (kv : Int) (d1 f1 : ByteArray) (nv : Int) (x : Lx.Lexicon) (d : Array Bool) (a : Act) (wc : World) : Prop := ∃ t : Array Value, a = ⟨t, []⟩ ∧ LeR T0 W0 Lb v0 v1 v2 b off nl c kv d1 f1 nv x d t wc
structure LcR (T0 : Array Value) (W0 : World) (Lb : Nat) (v0 v1 v2 : Value) (b off nl c : Nat) (b1 d1 : ByteArray) (nv : Int) (x : Lx.Lexicon) (d : Array Bool) (t : Array Value) (wc : World) : Prop where
  bel : Below Lb W0 wc
  siz : t.size = 158
  kp : ∀ i, i ∉ ([141, 142, 143, 144, 145, 146, 147, 148, 149, 150, 151, 152, 153, 154, 155, 156, 157] : List Nat) → t[i]? = T0[i]?
  k0 : t[0]? = some (.pointer (some ⟨Lb, 0, none⟩))
  k5 : t[5]? = some (.slice (some ⟨b, off, none⟩) nl c)
  k6 : t[6]? = some (.int .i64 nv)
  p0 : dn d 0 → t[141]? = some (.pointer (some ⟨Lb, 0, none⟩))
  p1 : dn d 1 → t[142]? = some (.pointer (some ⟨Lb, 0, none⟩))
  p2 : dn d 2 → t[143]? = some (.pointer (some ⟨Lb, 0, none⟩))
  p3 : dn d 3 → t[144]? = some (.pointer (some ⟨Lb, 2, none⟩))
  p4 : dn d 4 → t[145]? = some (v2)
  p5 : dn d 5 → t[146]? = some (.slice (some ⟨b, off, none⟩) nl c)
  p6 : dn d 6 → t[147]? = some (.pointer (some ⟨b, off + 1, none⟩))
  p7 : dn d 7 → t[148]? = some (.string b1)
  p8 : dn d 8 → t[149]? = some (.slice (some ⟨b, off, none⟩) nl c)
  p9 : dn d 9 → t[150]? = some (.pointer (some ⟨b, off + 2, none⟩))
  p10 : dn d 10 → t[151]? = some (.string d1)
  p11 : dn d 11 → t[152]? = some (.int .i64 nv)
  p12 : dn d 12 → t[153]? = some (.agg #[.string b1, .string d1, .int .i64 nv])
  p15 : dn d 15 → t[156]? = some (.pointer (some ⟨Lb, 0, none⟩))
  p16 : dn d 16 → t[157]? = some (.pointer (some ⟨Lb, 2, none⟩))
  oth : ¬ dn d 14 → Below W0.heap.size W0 wc
  sl : dn d 13 → ¬ dn d 14 → ∃ g, t[154]? = some (.slice (some ⟨g, 0, none⟩) 1 1) ∧ RdS wc wc.heap.size 3 encClitic (.slice (some ⟨g, 0, none⟩) 1 1) [⟨b1, d1, nv⟩]
  res : dn d 14 → ∃ u, (¬ dn d 17 → t[155]? = some u ∧ wc.heap[Lb]? = some (.cells #[v0, v1, v2] 26 (0, 0))) ∧ (dn d 17 → wc.heap[Lb]? = some (.cells #[v0, v1, u] 26 (0, 0))) ∧ LexRows wc (Lb + 1) v0 v1 u ⟨x.entries, x.endings, x.clitics ++ [⟨b1, d1, nv⟩]⟩
  l14_4 : dn d 14 → dn d 4
  l14_13 : dn d 14 → dn d 13
  l14_7 : dn d 14 → dn d 7
  l14_10 : dn d 14 → dn d 10
  l13_7 : dn d 13 → dn d 7
  l13_10 : dn d 13 → dn d 10
  l12_7 : dn d 12 → dn d 7
  l12_10 : dn d 12 → dn d 10
  l17_14 : dn d 17 → dn d 14
def LcI (T0 : Array Value) (W0 : World) (Lb : Nat) (v0 v1 v2 : Value) (b off nl c : Nat) (b1 d1 : ByteArray) (nv : Int) (x : Lx.Lexicon) (d : Array Bool) (a : Act) (wc : World) : Prop := ∃ t : Array Value, a = ⟨t, []⟩ ∧ LcR T0 W0 Lb v0 v1 v2 b off nl c b1 d1 nv x d t wc

theorem retLine_none {b : Nat} {q : Option Lx.Lexicon} {w w' : World} (hq : q = none) (hb : Below w.heap.size w w') (hlt : b ≤ w.heap.size) : RetLine b q w (.returned (.bool false)) w' := by
  subst hq
  exact ⟨rfl, hb.mono hlt, fun _ h => by cases h⟩

set_option maxRecDepth 100000 in
set_option maxHeartbeats 4000000 in
theorem rline_any (Lb : Nat) (x : Lx.Lexicon) (t : ByteArray) (w : World) (hL : LexOwn w Lb x) (ht : t.size ≤ 1000000) (hx0 : x.entries.length ≤ 1000000) (hx1 : x.endings.length ≤ 1000000) (hx2 : x.clitics.length ≤ 1000000) :
    Calls Tryz.prog 49 #[.pointer (some ⟨Lb, 0, none⟩), .string t] w (RetLine Lb (Lx.lineV x (Lib.split t.data.toList [32])) w) := by
  have hLlt : Lb < w.heap.size := by
    obtain ⟨v0, v1, v2, hc, -⟩ := hL
    refine Decidable.byContradiction fun hn => ?_
    rw [Array.getElem?_eq_none (by omega)] at hc
    cases hc
  have HL := Lib.hid (fun W hb => hL.below (w' := W) hb)
  clear hL
  obtain ⟨ws, hws⟩ : ∃ ws, ws = Lib.split t.data.toList [32] := ⟨_, rfl⟩
  rw [← hws]
  go_enter Tryz.func49, Tryz.ntmps49
  go_wp2_with fail
  refine (r1Split_any t 32 _ ht).mono ?_
  rintro e w1 ⟨v, l, rfl, hown, hq, hbel⟩
  have hne : l ≠ [] := fun h => by rw [h] at hq; exact Lx.split_ne _ _ hq.symm
  have hpos : 0 < l.length := List.length_pos_iff.2 hne
  have hRD := rds_of_own len_str hown
  have hl1 : l.length ≤ 1000001 := by
    have h1 := congrArg List.length hq
    rw [List.length_map, Lx.pst_split, List.length_append, List.length_singleton] at h1
    have h2 := Lx.pst_count 32 t.data.toList
    have h3 : t.data.toList.length = t.size := rfl
    omega
  have hsz := hbel.size
  obtain ⟨v0, v1, v2, hcell0, hrows⟩ := HL.out w1 hbel
  have HSZ : Hid (∀ s ∈ l, s.size ≤ 1000000) := Lib.hid fun s hs => by
    have h1 : s.data.toList ∈ Lib.split t.data.toList [32] := by rw [← hq]; exact List.mem_map.2 ⟨s, hs, rfl⟩
    have h2 := Lx.split_le h1
    have h3 : t.data.toList.length = t.size := rfl
    have h4 : s.data.toList.length = s.size := rfl
    omega
  have HWS := Lib.hid (hws.trans hq.symm)
  have HB := Lib.hid hbel
  have HQ := Lib.hid hq
  have HRD := Lib.hid hRD
  have HROWS := Lib.hid hrows
  have HCELL := Lib.hid hcell0
  obtain ⟨A, c, rfl, hlc, hc, hh⟩ := hRD
  obtain ⟨b, off, rfl, hb, hcell⟩ := hh hpos
  have HC := Lib.hid fun (k : Nat) (s : ByteArray) (h : l[k]? = some s) => (by have := hcell k s h 0 (.string s) rfl; simpa using this : w1.cell? ⟨b, off + k, none⟩ = some (.string s))
  clear hws hown hq hbel hh hcell hne hrows HL hcell0
  go_wp2_with fail
  refine (rfull_any _ l _ HRD.out hl1).mono ?_
  rintro e w2 ⟨rfl, rfl⟩
  cases hf : Lx.fullV l
  · have HN : Hid (Lx.lineV x ws = none) := Lib.hid (by rw [HWS.out]; exact Lx.lineV_full hf)
    clear hf
    go_wp2_with fail
    go_ret
    exact retLine_none HN.out HB.out (by omega)
  have HF := Lib.hid (Lx.lineV_ok hf)
  clear hf
  obtain ⟨m, hm⟩ : ∃ m, m = l.length - 1 := ⟨_, rfl⟩
  have hidx : (l.length : Int) - 1 = ((m : Nat) : Int) := by omega
  have hml : m < l.length := by omega
  obtain ⟨s, hs⟩ : ∃ s, s = l[m] := ⟨_, rfl⟩
  have hk1 : l[m]? = some s := by rw [hs]; exact List.getElem?_eq_getElem hml
  have hcm := HC.out m s hk1
  have HS := Lib.hid hk1
  have HM := Lib.hid hm
  have hssz : s.size ≤ 1000000 := HSZ.out s (List.mem_of_getElem? hk1)
  clear hs hk1 hm
  go_wp2_with fail
  refine (r1Number_any s 4 _ hssz (by decide) (by decide)).mono ?_
  rintro e w2 ⟨rfl, rfl⟩
  cases hn : Lx.numB s.data.toList 4
  · have HN : Hid (Lx.lineV x ws = none) := Lib.hid (HWS.out ▸ Lx.lineV_num (s := s.data.toList) (by rw [List.length_map, ← HM.out, List.getElem?_map, HS.out]; rfl) hn)
    clear hn
    go_wp2_with fail
    go_ret
    exact retLine_none HN.out HB.out (by omega)
  have HNM := Lib.hid hn
  obtain ⟨nv, hnv⟩ : ∃ nv, nv = Lx.numV s.data.toList 4 := ⟨_, rfl⟩
  rw [← hnv]
  have HNV := Lib.hid hnv
  clear hn hnv
  obtain ⟨s0, hs0⟩ : ∃ s, s = l[0] := ⟨_, rfl⟩
  have hk0 : l[0]? = some s0 := by rw [hs0]; exact List.getElem?_eq_getElem hpos
  have hc0 := (by simpa using HC.out 0 s0 hk0 : w2.cell? ⟨b, off, none⟩ = some (.string s0))
  have HS0 := Lib.hid hk0
  clear hs0 hk0
  obtain ⟨hL0, hL1, hL2⟩ := lex_cells HCELL.out
  by_cases h5 : l.length = 5
  · obtain ⟨a1, b1, d1, f1, g1, hl⟩ := list5 h5
    obtain rfl : s0 = a1 := by have := HS0.out; rw [hl] at this; simpa using this.symm
    obtain rfl : m = 4 := by have := HM.out; omega
    obtain rfl : s = g1 := by have := HS.out; rw [hl] at this; simpa using this.symm
    have hk1 := HC.out 1 b1 (by rw [hl]; rfl)
    have hk2 := HC.out 2 d1 (by rw [hl]; rfl)
    have hk3 := HC.out 3 f1 (by rw [hl]; rfl)
    have HZ1 := Lib.hid (HSZ.out b1 (by rw [hl]; simp))
    have HZ2 := Lib.hid (HSZ.out d1 (by rw [hl]; simp))
    have HZ3 := Lib.hid (HSZ.out f1 (by rw [hl]; simp))
    have HLV : Hid (Lx.lineV x ws = if s0.data.toList = [119, 111, 114, 100] ∧ x.endings.length = 0 ∧ x.clitics.length = 0 then
      (if Lx.numB d1.data.toList 4 = true ∧ Lx.numB s.data.toList 4 = true then some ⟨x.entries ++ [⟨Lx.bs b1.data.toList, Lx.numV d1.data.toList 4, Lx.bs (Lx.dash f1.data.toList), Lx.numV s.data.toList 4⟩], x.endings, x.clitics⟩ else none)
      else if s0.data.toList = [101, 110, 100, 105, 110, 103] ∧ x.clitics.length = 0 then
      (if Lx.numB b1.data.toList 4 = true ∧ Lx.numB s.data.toList 4 = true then some ⟨x.entries, x.endings ++ [⟨Lx.numV b1.data.toList 4, Lx.bs d1.data.toList, Lx.bs f1.data.toList, Lx.numV s.data.toList 4⟩], x.clitics⟩ else none)
      else none) := Lib.hid (by
        have hf := HF.out
        rw [HWS.out]
        rw [hl] at hf ⊢
        unfold Lx.lineV
        rw [hf]
        rfl)
    have h5I : (l.length : Int) = 5 := by omega
    have h4I : ¬ (l.length : Int) = 4 := by omega
    clear hl h5
    by_cases hw : s0.toList = [119, 111, 114, 100] ∧ (x.endings.length : Int) = 0 ∧ (x.clitics.length : Int) = 0
    · obtain ⟨hw0, hw1, hw2⟩ := hw
      obtain ⟨A1, c1, rfl⟩ := own_form HROWS.out.o1
      obtain ⟨A2, c2, rfl⟩ := own_form HROWS.out.o2
      go_wp2_with fail
      refine (r1Number_any d1 4 _ HZ2.out (by decide) (by decide)).mono ?_
      rintro e w3 ⟨rfl, rfl⟩
      obtain ⟨kv, hkv⟩ : ∃ kv, kv = Lx.numV d1.data.toList 4 := ⟨_, rfl⟩
      obtain ⟨kb, hkb⟩ : ∃ kb, kb = Lx.numB d1.data.toList 4 := ⟨_, rfl⟩
      rw [← hkv, ← hkb]
      have HKV := Lib.hid hkv
      have HKB := Lib.hid hkb
      clear hkv hkb
      go_wp2_with fail
      go_region
      by_cases hd : f1.toList = [45]
      · -- no class
        go_wp2_with fail
        generalize hwn : World.drew _ = wn
        obtain ⟨cls, hcls⟩ : ∃ c : ByteArray, c = ⟨#[]⟩ := ⟨_, rfl⟩
        rw [← hcls] at hwn
        have HBN : Hid (Below w3.heap.size w3 wn) := Lib.hid (by rw [← hwn]; exact ((Below.refl _ _).alloc (Nat.le_refl _) _).drew)
        have hszn : wn.heap.size = w3.heap.size + 1 := by rw [← hwn]; simp [World.drew]
        have HEN : Hid (wn.heap[w3.heap.size]? = some (.cells #[.string b1, .int .i64 kv, .string cls, .int .i64 nv] 57 (0, 0))) := Lib.hid (by rw [← hwn]; exact heap_alloc_new w3 _)
        have HCN : Hid (wn.heap[Lb]? = some (.cells #[v0, .slice A1 x.endings.length c1, .slice A2 x.clitics.length c2] 26 (0, 0))) := Lib.hid ((HBN.out.block Lb (by omega)).trans HCELL.out)
        have HROWN := Lib.hid (HROWS.out.below HBN.out)
        obtain ⟨ii, hii, hzi, hsi, hbi⟩ := info_parts info_Entry
        have hLW : Lb ≤ wn.heap.size := by omega
        have hLlt' : Lb < wn.heap.size := by omega
        have hElt : w3.heap.size < wn.heap.size := by omega
        have hfit : Lx.Entry.fits ⟨b1, kv, cls, nv⟩ := ⟨by have := HZ1.out; simp only [maxLen]; omega, by show cls.size ≤ maxLen; rw [hcls]; decide⟩
        have HLQ : Hid (Lx.lineV x ws = if kb = true then some ⟨x.entries ++ [⟨b1, kv, cls, nv⟩], x.endings, x.clitics⟩ else none) := Lib.hid (by
          have hw0' := hw0
          have hd' := hd
          rw [Go.Lib.toList_data] at hw0' hd'
          rw [HLV.out, if_pos ⟨hw0', by omega, by omega⟩, HKB.out, HKV.out, HNV.out, hcls, HNM.out]
          simp [Lx.dash, hd', Lx.bs_data]
          try rfl)
        clear hwn hcls hw0 hw1 hw2 hL0 hL1 hL2 hc0 hcm hk1 hk2 hk3 h5I h4I hb hlc hc hd
        refine wp_region_inv2T (fun T0 => LwI T0 wn Lb w3.heap.size v0 (.slice A1 x.endings.length c1) (.slice A2 x.clitics.length c2) b1 kv cls nv x) (by kernel_rfl) (by kernel_rfl) ?g0w ?gstepw ?gendw
        case g0w =>
          have hno : ∀ j, ¬ dn (Array.replicate 11 false) j := by
            intro j; unfold dn; by_cases hj : j < 11 <;> simp [Array.getD, hj]
          have na : ∀ {j : Nat} {Z : Prop}, dn (Array.replicate 11 false) j → Z := fun hj => absurd hj (hno _)
          exact ⟨_, rfl, { bel := (Below.refl _ _).drew, siz := rfl, kp := fun _ _ => rfl, k0 := rfl, k10 := rfl, p0 := na, p1 := na, p2 := na, p3 := na, p4 := na, p5 := na, p8 := na, p9 := na, oth := fun _ => (Below.refl _ _).drew, sl := fun hj => absurd hj (hno _), res := fun hj => absurd hj (hno _), l7_4 := fun hj => absurd hj (hno _), l7_6 := fun hj => absurd hj (hno _), l7_5 := fun hj => absurd hj (hno _), l6_5 := fun hj => absurd hj (hno _), l10_7 := fun hj => absurd hj (hno _) }⟩
        case gstepw =>
          intro T0 d a wc i hd hI hi
          obtain ⟨hlt, hnd, hpre⟩ := mem_ready hi
          have hd' : d.size = 11 := hd
          have hin : i < 11 := hlt
          clear hi hd hlt
          obtain ⟨t, rfl, h⟩ := hI
          have hcs : i = 0 ∨ i = 1 ∨ i = 2 ∨ i = 3 ∨ i = 4 ∨ i = 5 ∨ i = 6 ∨ i = 7 ∨ i = 8 ∨ i = 9 ∨ i = 10 := by omega
          rcases hcs with rfl | rfl | rfl | rfl | rfl | rfl | rfl | rfl | rfl | rfl | rfl
          · have hi : 0 < d.size := by omega
            have q0 := h.k0
            refine wpOp_plain rfl rfl ?_
            go_simp
            exact ⟨_, rfl, { bel := h.bel, siz := (by simpa using h.siz), kp := rk h.kp, k0 := rs h.k0, k10 := rs h.k10, oth := fun hk => h.oth (fun q => hk (dn_up q)), sl := fun hj hk => by obtain ⟨g, e1, e2⟩ := h.sl (dn_of hi hj (by decide)) (fun q => hk (dn_up q)); exact ⟨g, (set_other (by decide)).trans e1, e2⟩, res := fun hj => by obtain ⟨u, e1, e2, e3⟩ := h.res (dn_of hi hj (by decide)); exact ⟨u, fun hk => ⟨(set_other (by decide)).trans (e1 (fun q => hk (dn_up q))).1, (e1 (fun q => hk (dn_up q))).2⟩, fun h9 => e2 (dn_of hi h9 (by decide)), e3⟩, l7_4 := fun hj => dn_up (h.l7_4 (dn_of hi hj (by decide))), l7_6 := fun hj => dn_up (h.l7_6 (dn_of hi hj (by decide))), l7_5 := fun hj => dn_up (h.l7_5 (dn_of hi hj (by decide))), l6_5 := fun hj => dn_up (h.l6_5 (dn_of hi hj (by decide))), l10_7 := fun hj => dn_up (h.l10_7 (dn_of hi hj (by decide))), p0 := fun _ => set_same (by have := h.siz; omega), p1 := rp hi h.p1, p2 := rp hi h.p2, p3 := rp hi h.p3, p4 := rp hi h.p4, p5 := rp hi h.p5, p8 := rp hi h.p8, p9 := rp hi h.p9 }⟩
          · have hi : 1 < d.size := by omega
            have q0 := h.k0
            refine wpOp_plain rfl rfl ?_
            go_simp
            exact ⟨_, rfl, { bel := h.bel, siz := (by simpa using h.siz), kp := rk h.kp, k0 := rs h.k0, k10 := rs h.k10, oth := fun hk => h.oth (fun q => hk (dn_up q)), sl := fun hj hk => by obtain ⟨g, e1, e2⟩ := h.sl (dn_of hi hj (by decide)) (fun q => hk (dn_up q)); exact ⟨g, (set_other (by decide)).trans e1, e2⟩, res := fun hj => by obtain ⟨u, e1, e2, e3⟩ := h.res (dn_of hi hj (by decide)); exact ⟨u, fun hk => ⟨(set_other (by decide)).trans (e1 (fun q => hk (dn_up q))).1, (e1 (fun q => hk (dn_up q))).2⟩, fun h9 => e2 (dn_of hi h9 (by decide)), e3⟩, l7_4 := fun hj => dn_up (h.l7_4 (dn_of hi hj (by decide))), l7_6 := fun hj => dn_up (h.l7_6 (dn_of hi hj (by decide))), l7_5 := fun hj => dn_up (h.l7_5 (dn_of hi hj (by decide))), l6_5 := fun hj => dn_up (h.l6_5 (dn_of hi hj (by decide))), l10_7 := fun hj => dn_up (h.l10_7 (dn_of hi hj (by decide))), p0 := rp hi h.p0, p1 := fun _ => set_same (by have := h.siz; omega), p2 := rp hi h.p2, p3 := rp hi h.p3, p4 := rp hi h.p4, p5 := rp hi h.p5, p8 := rp hi h.p8, p9 := rp hi h.p9 }⟩
          · have hi : 2 < d.size := by omega
            have e1 := h.p1 (hpre _ rfl ⟨1, .data⟩ (by simp) rfl)
            refine wpOp_plain rfl rfl ?_
            go_simp
            exact ⟨_, rfl, { bel := h.bel, siz := (by simpa using h.siz), kp := rk h.kp, k0 := rs h.k0, k10 := rs h.k10, oth := fun hk => h.oth (fun q => hk (dn_up q)), sl := fun hj hk => by obtain ⟨g, e1, e2⟩ := h.sl (dn_of hi hj (by decide)) (fun q => hk (dn_up q)); exact ⟨g, (set_other (by decide)).trans e1, e2⟩, res := fun hj => by obtain ⟨u, e1, e2, e3⟩ := h.res (dn_of hi hj (by decide)); exact ⟨u, fun hk => ⟨(set_other (by decide)).trans (e1 (fun q => hk (dn_up q))).1, (e1 (fun q => hk (dn_up q))).2⟩, fun h9 => e2 (dn_of hi h9 (by decide)), e3⟩, l7_4 := fun hj => dn_up (h.l7_4 (dn_of hi hj (by decide))), l7_6 := fun hj => dn_up (h.l7_6 (dn_of hi hj (by decide))), l7_5 := fun hj => dn_up (h.l7_5 (dn_of hi hj (by decide))), l6_5 := fun hj => dn_up (h.l6_5 (dn_of hi hj (by decide))), l10_7 := fun hj => dn_up (h.l10_7 (dn_of hi hj (by decide))), p0 := rp hi h.p0, p1 := rp hi h.p1, p2 := fun _ => set_same (by have := h.siz; omega), p3 := rp hi h.p3, p4 := rp hi h.p4, p5 := rp hi h.p5, p8 := rp hi h.p8, p9 := rp hi h.p9 }⟩
          · have hi : 3 < d.size := by omega
            have e2 := h.p2 (hpre _ rfl ⟨2, .data⟩ (by simp) rfl)
            refine wpOp_plain rfl rfl ?_
            go_simp
            exact ⟨_, rfl, { bel := h.bel, siz := (by simpa using h.siz), kp := rk h.kp, k0 := rs h.k0, k10 := rs h.k10, oth := fun hk => h.oth (fun q => hk (dn_up q)), sl := fun hj hk => by obtain ⟨g, e1, e2⟩ := h.sl (dn_of hi hj (by decide)) (fun q => hk (dn_up q)); exact ⟨g, (set_other (by decide)).trans e1, e2⟩, res := fun hj => by obtain ⟨u, e1, e2, e3⟩ := h.res (dn_of hi hj (by decide)); exact ⟨u, fun hk => ⟨(set_other (by decide)).trans (e1 (fun q => hk (dn_up q))).1, (e1 (fun q => hk (dn_up q))).2⟩, fun h9 => e2 (dn_of hi h9 (by decide)), e3⟩, l7_4 := fun hj => dn_up (h.l7_4 (dn_of hi hj (by decide))), l7_6 := fun hj => dn_up (h.l7_6 (dn_of hi hj (by decide))), l7_5 := fun hj => dn_up (h.l7_5 (dn_of hi hj (by decide))), l6_5 := fun hj => dn_up (h.l6_5 (dn_of hi hj (by decide))), l10_7 := fun hj => dn_up (h.l10_7 (dn_of hi hj (by decide))), p0 := rp hi h.p0, p1 := rp hi h.p1, p2 := rp hi h.p2, p3 := fun _ => set_same (by have := h.siz; omega), p4 := rp hi h.p4, p5 := rp hi h.p5, p8 := rp hi h.p8, p9 := rp hi h.p9 }⟩
          · have hi : 4 < d.size := by omega
            have e3 := h.p3 (hpre _ rfl ⟨3, .data⟩ (by simp) rfl)
            have hnd' := not_dn hi hnd
            have h7 : ¬ dn d 7 := fun q => hnd' (h.l7_4 q)
            obtain ⟨s0, s1, s2, -, -, -⟩ := lex_cells6 (((h.oth h7).block Lb hLlt').trans HCN.out)
            refine wpOp_plain rfl rfl ?_
            go_simp
            exact ⟨_, rfl, { bel := h.bel, siz := (by simpa using h.siz), kp := rk h.kp, k0 := rs h.k0, k10 := rs h.k10, oth := fun hk => h.oth (fun q => hk (dn_up q)), sl := fun hj hk => by obtain ⟨g, e1, e2⟩ := h.sl (dn_of hi hj (by decide)) (fun q => hk (dn_up q)); exact ⟨g, (set_other (by decide)).trans e1, e2⟩, res := fun hj => by obtain ⟨u, e1, e2, e3⟩ := h.res (dn_of hi hj (by decide)); exact ⟨u, fun hk => ⟨(set_other (by decide)).trans (e1 (fun q => hk (dn_up q))).1, (e1 (fun q => hk (dn_up q))).2⟩, fun h9 => e2 (dn_of hi h9 (by decide)), e3⟩, l7_4 := fun hj => dn_up (h.l7_4 (dn_of hi hj (by decide))), l7_6 := fun hj => dn_up (h.l7_6 (dn_of hi hj (by decide))), l7_5 := fun hj => dn_up (h.l7_5 (dn_of hi hj (by decide))), l6_5 := fun hj => dn_up (h.l6_5 (dn_of hi hj (by decide))), l10_7 := fun hj => dn_up (h.l10_7 (dn_of hi hj (by decide))), p0 := rp hi h.p0, p1 := rp hi h.p1, p2 := rp hi h.p2, p3 := rp hi h.p3, p4 := fun _ => set_same (by have := h.siz; omega), p5 := rp hi h.p5, p8 := rp hi h.p8, p9 := rp hi h.p9 }⟩
          · have hi : 5 < d.size := by omega
            have q10 := h.k10
            have hnd' := not_dn hi hnd
            have h7 : ¬ dn d 7 := fun q => hnd' (h.l7_5 q)
            obtain ⟨m0, m1, m2, m3⟩ := four_cells (((h.oth h7).block _ hElt).trans HEN.out)
            refine wpOp_plain rfl rfl ?_
            go_simp
            exact ⟨_, rfl, { bel := h.bel, siz := (by simpa using h.siz), kp := rk h.kp, k0 := rs h.k0, k10 := rs h.k10, oth := fun hk => h.oth (fun q => hk (dn_up q)), sl := fun hj hk => by obtain ⟨g, e1, e2⟩ := h.sl (dn_of hi hj (by decide)) (fun q => hk (dn_up q)); exact ⟨g, (set_other (by decide)).trans e1, e2⟩, res := fun hj => by obtain ⟨u, e1, e2, e3⟩ := h.res (dn_of hi hj (by decide)); exact ⟨u, fun hk => ⟨(set_other (by decide)).trans (e1 (fun q => hk (dn_up q))).1, (e1 (fun q => hk (dn_up q))).2⟩, fun h9 => e2 (dn_of hi h9 (by decide)), e3⟩, l7_4 := fun hj => dn_up (h.l7_4 (dn_of hi hj (by decide))), l7_6 := fun hj => dn_up (h.l7_6 (dn_of hi hj (by decide))), l7_5 := fun hj => dn_up (h.l7_5 (dn_of hi hj (by decide))), l6_5 := fun hj => dn_up (h.l6_5 (dn_of hi hj (by decide))), l10_7 := fun hj => dn_up (h.l10_7 (dn_of hi hj (by decide))), p0 := rp hi h.p0, p1 := rp hi h.p1, p2 := rp hi h.p2, p3 := rp hi h.p3, p4 := rp hi h.p4, p5 := fun _ => set_same (by have := h.siz; omega), p8 := rp hi h.p8, p9 := rp hi h.p9 }⟩
          · have hi : 6 < d.size := by omega
            have hnd' := not_dn hi hnd
            have h7 : ¬ dn d 7 := fun q => hnd' (h.l7_6 q)
            have d5 : dn d 5 := hpre _ rfl ⟨5, .data⟩ (by simp) rfl
            have e5 := h.p5 d5
            have hb : Below wc.heap.size wc (wc.alloc (.cells #[.string b1, .int .i64 kv, .string cls, .int .i64 nv] 57)) := (Below.refl _ _).alloc (Nat.le_refl _) _
            refine wpOp_plain rfl rfl ?_
            go_simp
            exact ⟨_, rfl, { bel := h.bel.trans (hb.mono (Nat.le_trans hLW (h.oth h7).size)), siz := (by simpa using h.siz), kp := rk h.kp, k0 := rs h.k0, k10 := rs h.k10, oth := fun hk => (h.oth (fun q => hk (dn_up q))).trans (hb.mono (h.oth (fun q => hk (dn_up q))).size), sl := fun _ _ => ⟨wc.heap.size, set_same (by have := h.siz; omega), rds_block (xs := [⟨b1, kv, cls, nv⟩]) len_entry (heap_alloc_new _ _) rfl (by simp) (Nat.le_refl 1) (by decide)⟩, res := fun hj => absurd (h.l7_6 (dn_of hi hj (by decide))) hnd', l7_4 := fun hj => dn_up (h.l7_4 (dn_of hi hj (by decide))), l7_6 := fun hj => dn_up (h.l7_6 (dn_of hi hj (by decide))), l7_5 := fun hj => dn_up (h.l7_5 (dn_of hi hj (by decide))), l6_5 := fun _ => dn_up d5, l10_7 := fun hj => dn_up (h.l10_7 (dn_of hi hj (by decide))), p0 := rp hi h.p0, p1 := rp hi h.p1, p2 := rp hi h.p2, p3 := rp hi h.p3, p4 := rp hi h.p4, p5 := rp hi h.p5, p8 := rp hi h.p8, p9 := rp hi h.p9 }⟩
          · have hi : 7 < d.size := by omega
            have hnd' := not_dn hi hnd
            have h7 := hnd'
            have d4 : dn d 4 := hpre _ rfl ⟨4, .data⟩ (by simp) rfl
            have d6 : dn d 6 := hpre _ rfl ⟨6, .data⟩ (by simp) rfl
            have e1 := h.p4 d4
            obtain ⟨g, e6, hr6⟩ := h.sl d6 h7
            have hot := h.oth h7
            have d5 : dn d 5 := h.l6_5 d6
            have hrw := HROWN.out.below hot
            have hown := hrw.o0
            refine wpOp_plain rfl rfl ?_
            refine wp_append_rd (enc := encEntry) (.tmp 80) (.tmp 82) _ rfl (Lb + 1) 57 ii _ 4 48 len_entry one_entry Tryz.underlying22 hii hzi hsi hbi rfl (by decide) v0 _ _ (eval_tmp e1) hown wc.heap.size (.slice (some ⟨g, 0, none⟩) 1 1) [⟨b1, kv, cls, nv⟩] (eval_tmp e6) hr6 (by simp only [maxLen]; show x.entries.length + 1 ≤ _; omega) (by show (x.entries.length + 1) * 48 ≤ _; omega) (by have := hot.size; omega) ?_
            intro v' w' hown' hg hat
            have hFn : v0.ownBlock ≠ some Lb := fun q => by have := (hown.lt _ q).1; omega
            exact ⟨_, rfl, { bel := h.bel.grown hg (by have := hot.size; omega) (fun k hk => by have := (hown.lt k hk).1; omega), siz := (by simpa using h.siz), kp := rk h.kp, k0 := rs h.k0, k10 := rs h.k10, oth := fun hk => absurd (dn_self hi) hk, sl := fun _ hk => absurd (dn_self hi) hk, res := fun _ => ⟨v', fun _ => ⟨set_same (by have := h.siz; show _ < t.size; omega), (hg.block Lb (by have := hot.size; omega) (fun q => hFn q.symm)).trans ((hot.block Lb hLlt').trans HCN.out)⟩, fun h9 => absurd (h.l10_7 (dn_of hi h9 (by decide))) hnd', hrw.grow0 hfit (by simpa using hown') hg⟩, l7_4 := fun _ => dn_up d4, l7_6 := fun _ => dn_up d6, l7_5 := fun _ => dn_up d5, l6_5 := fun hj => dn_up (h.l6_5 (dn_of hi hj (by decide))), l10_7 := fun hj => dn_up (h.l10_7 (dn_of hi hj (by decide))), p0 := rp hi h.p0, p1 := rp hi h.p1, p2 := rp hi h.p2, p3 := rp hi h.p3, p4 := rp hi h.p4, p5 := rp hi h.p5, p8 := rp hi h.p8, p9 := rp hi h.p9 }⟩
          · have hi : 8 < d.size := by omega
            have e0 := h.p0 (hpre _ rfl ⟨0, .data⟩ (by simp) rfl)
            refine wpOp_plain rfl rfl ?_
            go_simp
            exact ⟨_, rfl, { bel := h.bel, siz := (by simpa using h.siz), kp := rk h.kp, k0 := rs h.k0, k10 := rs h.k10, oth := fun hk => h.oth (fun q => hk (dn_up q)), sl := fun hj hk => by obtain ⟨g, e1, e2⟩ := h.sl (dn_of hi hj (by decide)) (fun q => hk (dn_up q)); exact ⟨g, (set_other (by decide)).trans e1, e2⟩, res := fun hj => by obtain ⟨u, e1, e2, e3⟩ := h.res (dn_of hi hj (by decide)); exact ⟨u, fun hk => ⟨(set_other (by decide)).trans (e1 (fun q => hk (dn_up q))).1, (e1 (fun q => hk (dn_up q))).2⟩, fun h9 => e2 (dn_of hi h9 (by decide)), e3⟩, l7_4 := fun hj => dn_up (h.l7_4 (dn_of hi hj (by decide))), l7_6 := fun hj => dn_up (h.l7_6 (dn_of hi hj (by decide))), l7_5 := fun hj => dn_up (h.l7_5 (dn_of hi hj (by decide))), l6_5 := fun hj => dn_up (h.l6_5 (dn_of hi hj (by decide))), l10_7 := fun hj => dn_up (h.l10_7 (dn_of hi hj (by decide))), p0 := rp hi h.p0, p1 := rp hi h.p1, p2 := rp hi h.p2, p3 := rp hi h.p3, p4 := rp hi h.p4, p5 := rp hi h.p5, p8 := fun _ => set_same (by have := h.siz; omega), p9 := rp hi h.p9 }⟩
          · have hi : 9 < d.size := by omega
            have e8 := h.p8 (hpre _ rfl ⟨8, .data⟩ (by simp) rfl)
            refine wpOp_plain rfl rfl ?_
            go_simp
            exact ⟨_, rfl, { bel := h.bel, siz := (by simpa using h.siz), kp := rk h.kp, k0 := rs h.k0, k10 := rs h.k10, oth := fun hk => h.oth (fun q => hk (dn_up q)), sl := fun hj hk => by obtain ⟨g, e1, e2⟩ := h.sl (dn_of hi hj (by decide)) (fun q => hk (dn_up q)); exact ⟨g, (set_other (by decide)).trans e1, e2⟩, res := fun hj => by obtain ⟨u, e1, e2, e3⟩ := h.res (dn_of hi hj (by decide)); exact ⟨u, fun hk => ⟨(set_other (by decide)).trans (e1 (fun q => hk (dn_up q))).1, (e1 (fun q => hk (dn_up q))).2⟩, fun h9 => e2 (dn_of hi h9 (by decide)), e3⟩, l7_4 := fun hj => dn_up (h.l7_4 (dn_of hi hj (by decide))), l7_6 := fun hj => dn_up (h.l7_6 (dn_of hi hj (by decide))), l7_5 := fun hj => dn_up (h.l7_5 (dn_of hi hj (by decide))), l6_5 := fun hj => dn_up (h.l6_5 (dn_of hi hj (by decide))), l10_7 := fun hj => dn_up (h.l10_7 (dn_of hi hj (by decide))), p0 := rp hi h.p0, p1 := rp hi h.p1, p2 := rp hi h.p2, p3 := rp hi h.p3, p4 := rp hi h.p4, p5 := rp hi h.p5, p8 := rp hi h.p8, p9 := fun _ => set_same (by have := h.siz; omega) }⟩
          · have hi : 10 < d.size := by omega
            have hnd' := not_dn hi hnd
            have d9 : dn d 9 := hpre _ rfl ⟨9, .data⟩ (by simp) rfl
            have d7 : dn d 7 := hpre _ rfl ⟨7, .data⟩ (by simp) rfl
            have e8 := h.p9 d9
            obtain ⟨u, q1, q2, q3⟩ := h.res d7
            obtain ⟨q4, q5⟩ := q1 hnd'
            obtain ⟨s0, s1, s2, z0, z1, z2⟩ := lex_cells6 q5
            obtain ⟨Au, cu, rfl⟩ := own_form q3.o0
            refine wpOp_plain rfl rfl ?_
            go_simp
            exact ⟨_, rfl, { bel := h.bel.setCell (by exact Nat.le_refl _) _, siz := h.siz, kp := h.kp, k0 := h.k0, k10 := h.k10, oth := fun hk => absurd (dn_up d7) hk, sl := fun _ hk => absurd (dn_up d7) hk, res := fun _ => ⟨_, fun hk => absurd (dn_self hi) hk, fun _ => by simp [World.setCell, Array.getElem?_modify, q5], q3.store (by exact Nat.lt_succ_self _) _⟩, l7_4 := fun hj => dn_up (h.l7_4 (dn_of hi hj (by decide))), l7_6 := fun hj => dn_up (h.l7_6 (dn_of hi hj (by decide))), l7_5 := fun hj => dn_up (h.l7_5 (dn_of hi hj (by decide))), l6_5 := fun hj => dn_up (h.l6_5 (dn_of hi hj (by decide))), l10_7 := fun _ => dn_up d7, p0 := rn hi h.p0, p1 := rn hi h.p1, p2 := rn hi h.p2, p3 := rn hi h.p3, p4 := rn hi h.p4, p5 := rn hi h.p5, p8 := rn hi h.p8, p9 := rn hi h.p9 }⟩
        case gendw =>
          intro d a wc hd hI hall
          obtain ⟨t, rfl, h⟩ := hI
          have hdn : ∀ j, j < 11 → dn d j := fun j hj => dn_all hd hall hj
          have hd : ∀ j, (_ : j < 11 := by decide) → dn d j := fun j hj => hdn j hj
          obtain ⟨t82, x82⟩ : ∃ v, t[82]? = some v := ⟨_, Array.getElem?_eq_getElem (by have := h.siz; omega)⟩
          obtain ⟨t83, x83⟩ : ∃ v, t[83]? = some v := ⟨_, Array.getElem?_eq_getElem (by have := h.siz; omega)⟩
          have hfe := frame_eq [(76, _), (77, _), (78, _), (79, _), (80, _), (81, _), (82, _), (83, _), (84, _), (85, _)] (h.siz.trans rfl) h.kp rfl ⟨h.p0 (hd 0), h.p1 (hd 1), h.p2 (hd 2), h.p3 (hd 3), h.p4 (hd 4), h.p5 (hd 5), x82, x83, h.p8 (hd 8), h.p9 (hd 9), trivial⟩
          simp only [List.foldl_cons, List.foldl_nil, List.setIfInBounds_toArray, List.set_cons_succ, List.set_cons_zero] at hfe
          have hbc := h.bel
          subst hfe
          have hres := h.res (hd 7)
          have h9d := hd 10
          clear h hdn hall
          have hbc' := hbc
          obtain ⟨u, -, hfin, hown9⟩ := hres
          have hfin := hfin h9d
          have HBF := Lib.hid ((HB.out.mono (by omega : Lb ≤ w.heap.size)).trans ((HBN.out.mono (by omega : Lb ≤ _)).trans hbc'))
          have HFI := Lib.hid hfin
          have HOW := Lib.hid hown9
          clear hbc hbc' hfin hown9 h9d
          go_wp2_with fail
          go_ret
          exact retLine_some (b := kb) HLQ.out HBF.out ⟨_, _, _, HFI.out, HOW.out⟩
      · -- a class
        have hd2 : (f1.toList == [45]) = false := by rw [beq_eq_false_iff_ne]; exact hd
        go_wp2_with fail
        generalize hwn : World.drew _ = wn
        obtain ⟨cls, hcls⟩ : ∃ c : ByteArray, c = f1 := ⟨_, rfl⟩
        rw [← hcls] at hwn
        have HBN : Hid (Below w3.heap.size w3 wn) := Lib.hid (by rw [← hwn]; exact ((Below.refl _ _).alloc (Nat.le_refl _) _).drew)
        have hszn : wn.heap.size = w3.heap.size + 1 := by rw [← hwn]; simp [World.drew]
        have HEN : Hid (wn.heap[w3.heap.size]? = some (.cells #[.string b1, .int .i64 kv, .string cls, .int .i64 nv] 57 (0, 0))) := Lib.hid (by rw [← hwn]; exact heap_alloc_new w3 _)
        have HCN : Hid (wn.heap[Lb]? = some (.cells #[v0, .slice A1 x.endings.length c1, .slice A2 x.clitics.length c2] 26 (0, 0))) := Lib.hid ((HBN.out.block Lb (by omega)).trans HCELL.out)
        have HROWN := Lib.hid (HROWS.out.below HBN.out)
        obtain ⟨ii, hii, hzi, hsi, hbi⟩ := info_parts info_Entry
        have hLW : Lb ≤ wn.heap.size := by omega
        have hLlt' : Lb < wn.heap.size := by omega
        have hElt : w3.heap.size < wn.heap.size := by omega
        have hfit : Lx.Entry.fits ⟨b1, kv, cls, nv⟩ := ⟨by have := HZ1.out; simp only [maxLen]; omega, by show cls.size ≤ maxLen; rw [hcls]; have := HZ3.out; simp only [maxLen]; omega⟩
        have HLQ : Hid (Lx.lineV x ws = if kb = true then some ⟨x.entries ++ [⟨b1, kv, cls, nv⟩], x.endings, x.clitics⟩ else none) := Lib.hid (by
          have hw0' := hw0
          have hd' := hd
          rw [Go.Lib.toList_data] at hw0' hd'
          rw [HLV.out, if_pos ⟨hw0', by omega, by omega⟩, HKB.out, HKV.out, HNV.out, hcls, HNM.out]
          simp [Lx.dash, hd', Lx.bs_data]
          try rfl)
        clear hwn hcls hw0 hw1 hw2 hL0 hL1 hL2 hc0 hcm hk1 hk2 hk3 h5I h4I hb hlc hc hd
        refine wp_region_inv2T (fun T0 => LwI T0 wn Lb w3.heap.size v0 (.slice A1 x.endings.length c1) (.slice A2 x.clitics.length c2) b1 kv cls nv x) (by kernel_rfl) (by kernel_rfl) ?g0w ?gstepw ?gendw
        case g0w =>
          have hno : ∀ j, ¬ dn (Array.replicate 11 false) j := by
            intro j; unfold dn; by_cases hj : j < 11 <;> simp [Array.getD, hj]
          have na : ∀ {j : Nat} {Z : Prop}, dn (Array.replicate 11 false) j → Z := fun hj => absurd hj (hno _)
          exact ⟨_, rfl, { bel := (Below.refl _ _).drew, siz := rfl, kp := fun _ _ => rfl, k0 := rfl, k10 := rfl, p0 := na, p1 := na, p2 := na, p3 := na, p4 := na, p5 := na, p8 := na, p9 := na, oth := fun _ => (Below.refl _ _).drew, sl := fun hj => absurd hj (hno _), res := fun hj => absurd hj (hno _), l7_4 := fun hj => absurd hj (hno _), l7_6 := fun hj => absurd hj (hno _), l7_5 := fun hj => absurd hj (hno _), l6_5 := fun hj => absurd hj (hno _), l10_7 := fun hj => absurd hj (hno _) }⟩
        case gstepw =>
          intro T0 d a wc i hd hI hi
          obtain ⟨hlt, hnd, hpre⟩ := mem_ready hi
          have hd' : d.size = 11 := hd
          have hin : i < 11 := hlt
          clear hi hd hlt
          obtain ⟨t, rfl, h⟩ := hI
          have hcs : i = 0 ∨ i = 1 ∨ i = 2 ∨ i = 3 ∨ i = 4 ∨ i = 5 ∨ i = 6 ∨ i = 7 ∨ i = 8 ∨ i = 9 ∨ i = 10 := by omega
          rcases hcs with rfl | rfl | rfl | rfl | rfl | rfl | rfl | rfl | rfl | rfl | rfl
          · have hi : 0 < d.size := by omega
            have q0 := h.k0
            refine wpOp_plain rfl rfl ?_
            go_simp
            exact ⟨_, rfl, { bel := h.bel, siz := (by simpa using h.siz), kp := rk h.kp, k0 := rs h.k0, k10 := rs h.k10, oth := fun hk => h.oth (fun q => hk (dn_up q)), sl := fun hj hk => by obtain ⟨g, e1, e2⟩ := h.sl (dn_of hi hj (by decide)) (fun q => hk (dn_up q)); exact ⟨g, (set_other (by decide)).trans e1, e2⟩, res := fun hj => by obtain ⟨u, e1, e2, e3⟩ := h.res (dn_of hi hj (by decide)); exact ⟨u, fun hk => ⟨(set_other (by decide)).trans (e1 (fun q => hk (dn_up q))).1, (e1 (fun q => hk (dn_up q))).2⟩, fun h9 => e2 (dn_of hi h9 (by decide)), e3⟩, l7_4 := fun hj => dn_up (h.l7_4 (dn_of hi hj (by decide))), l7_6 := fun hj => dn_up (h.l7_6 (dn_of hi hj (by decide))), l7_5 := fun hj => dn_up (h.l7_5 (dn_of hi hj (by decide))), l6_5 := fun hj => dn_up (h.l6_5 (dn_of hi hj (by decide))), l10_7 := fun hj => dn_up (h.l10_7 (dn_of hi hj (by decide))), p0 := fun _ => set_same (by have := h.siz; omega), p1 := rp hi h.p1, p2 := rp hi h.p2, p3 := rp hi h.p3, p4 := rp hi h.p4, p5 := rp hi h.p5, p8 := rp hi h.p8, p9 := rp hi h.p9 }⟩
          · have hi : 1 < d.size := by omega
            have q0 := h.k0
            refine wpOp_plain rfl rfl ?_
            go_simp
            exact ⟨_, rfl, { bel := h.bel, siz := (by simpa using h.siz), kp := rk h.kp, k0 := rs h.k0, k10 := rs h.k10, oth := fun hk => h.oth (fun q => hk (dn_up q)), sl := fun hj hk => by obtain ⟨g, e1, e2⟩ := h.sl (dn_of hi hj (by decide)) (fun q => hk (dn_up q)); exact ⟨g, (set_other (by decide)).trans e1, e2⟩, res := fun hj => by obtain ⟨u, e1, e2, e3⟩ := h.res (dn_of hi hj (by decide)); exact ⟨u, fun hk => ⟨(set_other (by decide)).trans (e1 (fun q => hk (dn_up q))).1, (e1 (fun q => hk (dn_up q))).2⟩, fun h9 => e2 (dn_of hi h9 (by decide)), e3⟩, l7_4 := fun hj => dn_up (h.l7_4 (dn_of hi hj (by decide))), l7_6 := fun hj => dn_up (h.l7_6 (dn_of hi hj (by decide))), l7_5 := fun hj => dn_up (h.l7_5 (dn_of hi hj (by decide))), l6_5 := fun hj => dn_up (h.l6_5 (dn_of hi hj (by decide))), l10_7 := fun hj => dn_up (h.l10_7 (dn_of hi hj (by decide))), p0 := rp hi h.p0, p1 := fun _ => set_same (by have := h.siz; omega), p2 := rp hi h.p2, p3 := rp hi h.p3, p4 := rp hi h.p4, p5 := rp hi h.p5, p8 := rp hi h.p8, p9 := rp hi h.p9 }⟩
          · have hi : 2 < d.size := by omega
            have e1 := h.p1 (hpre _ rfl ⟨1, .data⟩ (by simp) rfl)
            refine wpOp_plain rfl rfl ?_
            go_simp
            exact ⟨_, rfl, { bel := h.bel, siz := (by simpa using h.siz), kp := rk h.kp, k0 := rs h.k0, k10 := rs h.k10, oth := fun hk => h.oth (fun q => hk (dn_up q)), sl := fun hj hk => by obtain ⟨g, e1, e2⟩ := h.sl (dn_of hi hj (by decide)) (fun q => hk (dn_up q)); exact ⟨g, (set_other (by decide)).trans e1, e2⟩, res := fun hj => by obtain ⟨u, e1, e2, e3⟩ := h.res (dn_of hi hj (by decide)); exact ⟨u, fun hk => ⟨(set_other (by decide)).trans (e1 (fun q => hk (dn_up q))).1, (e1 (fun q => hk (dn_up q))).2⟩, fun h9 => e2 (dn_of hi h9 (by decide)), e3⟩, l7_4 := fun hj => dn_up (h.l7_4 (dn_of hi hj (by decide))), l7_6 := fun hj => dn_up (h.l7_6 (dn_of hi hj (by decide))), l7_5 := fun hj => dn_up (h.l7_5 (dn_of hi hj (by decide))), l6_5 := fun hj => dn_up (h.l6_5 (dn_of hi hj (by decide))), l10_7 := fun hj => dn_up (h.l10_7 (dn_of hi hj (by decide))), p0 := rp hi h.p0, p1 := rp hi h.p1, p2 := fun _ => set_same (by have := h.siz; omega), p3 := rp hi h.p3, p4 := rp hi h.p4, p5 := rp hi h.p5, p8 := rp hi h.p8, p9 := rp hi h.p9 }⟩
          · have hi : 3 < d.size := by omega
            have e2 := h.p2 (hpre _ rfl ⟨2, .data⟩ (by simp) rfl)
            refine wpOp_plain rfl rfl ?_
            go_simp
            exact ⟨_, rfl, { bel := h.bel, siz := (by simpa using h.siz), kp := rk h.kp, k0 := rs h.k0, k10 := rs h.k10, oth := fun hk => h.oth (fun q => hk (dn_up q)), sl := fun hj hk => by obtain ⟨g, e1, e2⟩ := h.sl (dn_of hi hj (by decide)) (fun q => hk (dn_up q)); exact ⟨g, (set_other (by decide)).trans e1, e2⟩, res := fun hj => by obtain ⟨u, e1, e2, e3⟩ := h.res (dn_of hi hj (by decide)); exact ⟨u, fun hk => ⟨(set_other (by decide)).trans (e1 (fun q => hk (dn_up q))).1, (e1 (fun q => hk (dn_up q))).2⟩, fun h9 => e2 (dn_of hi h9 (by decide)), e3⟩, l7_4 := fun hj => dn_up (h.l7_4 (dn_of hi hj (by decide))), l7_6 := fun hj => dn_up (h.l7_6 (dn_of hi hj (by decide))), l7_5 := fun hj => dn_up (h.l7_5 (dn_of hi hj (by decide))), l6_5 := fun hj => dn_up (h.l6_5 (dn_of hi hj (by decide))), l10_7 := fun hj => dn_up (h.l10_7 (dn_of hi hj (by decide))), p0 := rp hi h.p0, p1 := rp hi h.p1, p2 := rp hi h.p2, p3 := fun _ => set_same (by have := h.siz; omega), p4 := rp hi h.p4, p5 := rp hi h.p5, p8 := rp hi h.p8, p9 := rp hi h.p9 }⟩
          · have hi : 4 < d.size := by omega
            have e3 := h.p3 (hpre _ rfl ⟨3, .data⟩ (by simp) rfl)
            have hnd' := not_dn hi hnd
            have h7 : ¬ dn d 7 := fun q => hnd' (h.l7_4 q)
            obtain ⟨s0, s1, s2, -, -, -⟩ := lex_cells6 (((h.oth h7).block Lb hLlt').trans HCN.out)
            refine wpOp_plain rfl rfl ?_
            go_simp
            exact ⟨_, rfl, { bel := h.bel, siz := (by simpa using h.siz), kp := rk h.kp, k0 := rs h.k0, k10 := rs h.k10, oth := fun hk => h.oth (fun q => hk (dn_up q)), sl := fun hj hk => by obtain ⟨g, e1, e2⟩ := h.sl (dn_of hi hj (by decide)) (fun q => hk (dn_up q)); exact ⟨g, (set_other (by decide)).trans e1, e2⟩, res := fun hj => by obtain ⟨u, e1, e2, e3⟩ := h.res (dn_of hi hj (by decide)); exact ⟨u, fun hk => ⟨(set_other (by decide)).trans (e1 (fun q => hk (dn_up q))).1, (e1 (fun q => hk (dn_up q))).2⟩, fun h9 => e2 (dn_of hi h9 (by decide)), e3⟩, l7_4 := fun hj => dn_up (h.l7_4 (dn_of hi hj (by decide))), l7_6 := fun hj => dn_up (h.l7_6 (dn_of hi hj (by decide))), l7_5 := fun hj => dn_up (h.l7_5 (dn_of hi hj (by decide))), l6_5 := fun hj => dn_up (h.l6_5 (dn_of hi hj (by decide))), l10_7 := fun hj => dn_up (h.l10_7 (dn_of hi hj (by decide))), p0 := rp hi h.p0, p1 := rp hi h.p1, p2 := rp hi h.p2, p3 := rp hi h.p3, p4 := fun _ => set_same (by have := h.siz; omega), p5 := rp hi h.p5, p8 := rp hi h.p8, p9 := rp hi h.p9 }⟩
          · have hi : 5 < d.size := by omega
            have q10 := h.k10
            have hnd' := not_dn hi hnd
            have h7 : ¬ dn d 7 := fun q => hnd' (h.l7_5 q)
            obtain ⟨m0, m1, m2, m3⟩ := four_cells (((h.oth h7).block _ hElt).trans HEN.out)
            refine wpOp_plain rfl rfl ?_
            go_simp
            exact ⟨_, rfl, { bel := h.bel, siz := (by simpa using h.siz), kp := rk h.kp, k0 := rs h.k0, k10 := rs h.k10, oth := fun hk => h.oth (fun q => hk (dn_up q)), sl := fun hj hk => by obtain ⟨g, e1, e2⟩ := h.sl (dn_of hi hj (by decide)) (fun q => hk (dn_up q)); exact ⟨g, (set_other (by decide)).trans e1, e2⟩, res := fun hj => by obtain ⟨u, e1, e2, e3⟩ := h.res (dn_of hi hj (by decide)); exact ⟨u, fun hk => ⟨(set_other (by decide)).trans (e1 (fun q => hk (dn_up q))).1, (e1 (fun q => hk (dn_up q))).2⟩, fun h9 => e2 (dn_of hi h9 (by decide)), e3⟩, l7_4 := fun hj => dn_up (h.l7_4 (dn_of hi hj (by decide))), l7_6 := fun hj => dn_up (h.l7_6 (dn_of hi hj (by decide))), l7_5 := fun hj => dn_up (h.l7_5 (dn_of hi hj (by decide))), l6_5 := fun hj => dn_up (h.l6_5 (dn_of hi hj (by decide))), l10_7 := fun hj => dn_up (h.l10_7 (dn_of hi hj (by decide))), p0 := rp hi h.p0, p1 := rp hi h.p1, p2 := rp hi h.p2, p3 := rp hi h.p3, p4 := rp hi h.p4, p5 := fun _ => set_same (by have := h.siz; omega), p8 := rp hi h.p8, p9 := rp hi h.p9 }⟩
          · have hi : 6 < d.size := by omega
            have hnd' := not_dn hi hnd
            have h7 : ¬ dn d 7 := fun q => hnd' (h.l7_6 q)
            have d5 : dn d 5 := hpre _ rfl ⟨5, .data⟩ (by simp) rfl
            have e5 := h.p5 d5
            have hb : Below wc.heap.size wc (wc.alloc (.cells #[.string b1, .int .i64 kv, .string cls, .int .i64 nv] 57)) := (Below.refl _ _).alloc (Nat.le_refl _) _
            refine wpOp_plain rfl rfl ?_
            go_simp
            exact ⟨_, rfl, { bel := h.bel.trans (hb.mono (Nat.le_trans hLW (h.oth h7).size)), siz := (by simpa using h.siz), kp := rk h.kp, k0 := rs h.k0, k10 := rs h.k10, oth := fun hk => (h.oth (fun q => hk (dn_up q))).trans (hb.mono (h.oth (fun q => hk (dn_up q))).size), sl := fun _ _ => ⟨wc.heap.size, set_same (by have := h.siz; omega), rds_block (xs := [⟨b1, kv, cls, nv⟩]) len_entry (heap_alloc_new _ _) rfl (by simp) (Nat.le_refl 1) (by decide)⟩, res := fun hj => absurd (h.l7_6 (dn_of hi hj (by decide))) hnd', l7_4 := fun hj => dn_up (h.l7_4 (dn_of hi hj (by decide))), l7_6 := fun hj => dn_up (h.l7_6 (dn_of hi hj (by decide))), l7_5 := fun hj => dn_up (h.l7_5 (dn_of hi hj (by decide))), l6_5 := fun _ => dn_up d5, l10_7 := fun hj => dn_up (h.l10_7 (dn_of hi hj (by decide))), p0 := rp hi h.p0, p1 := rp hi h.p1, p2 := rp hi h.p2, p3 := rp hi h.p3, p4 := rp hi h.p4, p5 := rp hi h.p5, p8 := rp hi h.p8, p9 := rp hi h.p9 }⟩
          · have hi : 7 < d.size := by omega
            have hnd' := not_dn hi hnd
            have h7 := hnd'
            have d4 : dn d 4 := hpre _ rfl ⟨4, .data⟩ (by simp) rfl
            have d6 : dn d 6 := hpre _ rfl ⟨6, .data⟩ (by simp) rfl
            have e1 := h.p4 d4
            obtain ⟨g, e6, hr6⟩ := h.sl d6 h7
            have hot := h.oth h7
            have d5 : dn d 5 := h.l6_5 d6
            have hrw := HROWN.out.below hot
            have hown := hrw.o0
            refine wpOp_plain rfl rfl ?_
            refine wp_append_rd (enc := encEntry) (.tmp 80) (.tmp 82) _ rfl (Lb + 1) 57 ii _ 4 48 len_entry one_entry Tryz.underlying22 hii hzi hsi hbi rfl (by decide) v0 _ _ (eval_tmp e1) hown wc.heap.size (.slice (some ⟨g, 0, none⟩) 1 1) [⟨b1, kv, cls, nv⟩] (eval_tmp e6) hr6 (by simp only [maxLen]; show x.entries.length + 1 ≤ _; omega) (by show (x.entries.length + 1) * 48 ≤ _; omega) (by have := hot.size; omega) ?_
            intro v' w' hown' hg hat
            have hFn : v0.ownBlock ≠ some Lb := fun q => by have := (hown.lt _ q).1; omega
            exact ⟨_, rfl, { bel := h.bel.grown hg (by have := hot.size; omega) (fun k hk => by have := (hown.lt k hk).1; omega), siz := (by simpa using h.siz), kp := rk h.kp, k0 := rs h.k0, k10 := rs h.k10, oth := fun hk => absurd (dn_self hi) hk, sl := fun _ hk => absurd (dn_self hi) hk, res := fun _ => ⟨v', fun _ => ⟨set_same (by have := h.siz; show _ < t.size; omega), (hg.block Lb (by have := hot.size; omega) (fun q => hFn q.symm)).trans ((hot.block Lb hLlt').trans HCN.out)⟩, fun h9 => absurd (h.l10_7 (dn_of hi h9 (by decide))) hnd', hrw.grow0 hfit (by simpa using hown') hg⟩, l7_4 := fun _ => dn_up d4, l7_6 := fun _ => dn_up d6, l7_5 := fun _ => dn_up d5, l6_5 := fun hj => dn_up (h.l6_5 (dn_of hi hj (by decide))), l10_7 := fun hj => dn_up (h.l10_7 (dn_of hi hj (by decide))), p0 := rp hi h.p0, p1 := rp hi h.p1, p2 := rp hi h.p2, p3 := rp hi h.p3, p4 := rp hi h.p4, p5 := rp hi h.p5, p8 := rp hi h.p8, p9 := rp hi h.p9 }⟩
          · have hi : 8 < d.size := by omega
            have e0 := h.p0 (hpre _ rfl ⟨0, .data⟩ (by simp) rfl)
            refine wpOp_plain rfl rfl ?_
            go_simp
            exact ⟨_, rfl, { bel := h.bel, siz := (by simpa using h.siz), kp := rk h.kp, k0 := rs h.k0, k10 := rs h.k10, oth := fun hk => h.oth (fun q => hk (dn_up q)), sl := fun hj hk => by obtain ⟨g, e1, e2⟩ := h.sl (dn_of hi hj (by decide)) (fun q => hk (dn_up q)); exact ⟨g, (set_other (by decide)).trans e1, e2⟩, res := fun hj => by obtain ⟨u, e1, e2, e3⟩ := h.res (dn_of hi hj (by decide)); exact ⟨u, fun hk => ⟨(set_other (by decide)).trans (e1 (fun q => hk (dn_up q))).1, (e1 (fun q => hk (dn_up q))).2⟩, fun h9 => e2 (dn_of hi h9 (by decide)), e3⟩, l7_4 := fun hj => dn_up (h.l7_4 (dn_of hi hj (by decide))), l7_6 := fun hj => dn_up (h.l7_6 (dn_of hi hj (by decide))), l7_5 := fun hj => dn_up (h.l7_5 (dn_of hi hj (by decide))), l6_5 := fun hj => dn_up (h.l6_5 (dn_of hi hj (by decide))), l10_7 := fun hj => dn_up (h.l10_7 (dn_of hi hj (by decide))), p0 := rp hi h.p0, p1 := rp hi h.p1, p2 := rp hi h.p2, p3 := rp hi h.p3, p4 := rp hi h.p4, p5 := rp hi h.p5, p8 := fun _ => set_same (by have := h.siz; omega), p9 := rp hi h.p9 }⟩
          · have hi : 9 < d.size := by omega
            have e8 := h.p8 (hpre _ rfl ⟨8, .data⟩ (by simp) rfl)
            refine wpOp_plain rfl rfl ?_
            go_simp
            exact ⟨_, rfl, { bel := h.bel, siz := (by simpa using h.siz), kp := rk h.kp, k0 := rs h.k0, k10 := rs h.k10, oth := fun hk => h.oth (fun q => hk (dn_up q)), sl := fun hj hk => by obtain ⟨g, e1, e2⟩ := h.sl (dn_of hi hj (by decide)) (fun q => hk (dn_up q)); exact ⟨g, (set_other (by decide)).trans e1, e2⟩, res := fun hj => by obtain ⟨u, e1, e2, e3⟩ := h.res (dn_of hi hj (by decide)); exact ⟨u, fun hk => ⟨(set_other (by decide)).trans (e1 (fun q => hk (dn_up q))).1, (e1 (fun q => hk (dn_up q))).2⟩, fun h9 => e2 (dn_of hi h9 (by decide)), e3⟩, l7_4 := fun hj => dn_up (h.l7_4 (dn_of hi hj (by decide))), l7_6 := fun hj => dn_up (h.l7_6 (dn_of hi hj (by decide))), l7_5 := fun hj => dn_up (h.l7_5 (dn_of hi hj (by decide))), l6_5 := fun hj => dn_up (h.l6_5 (dn_of hi hj (by decide))), l10_7 := fun hj => dn_up (h.l10_7 (dn_of hi hj (by decide))), p0 := rp hi h.p0, p1 := rp hi h.p1, p2 := rp hi h.p2, p3 := rp hi h.p3, p4 := rp hi h.p4, p5 := rp hi h.p5, p8 := rp hi h.p8, p9 := fun _ => set_same (by have := h.siz; omega) }⟩
          · have hi : 10 < d.size := by omega
            have hnd' := not_dn hi hnd
            have d9 : dn d 9 := hpre _ rfl ⟨9, .data⟩ (by simp) rfl
            have d7 : dn d 7 := hpre _ rfl ⟨7, .data⟩ (by simp) rfl
            have e8 := h.p9 d9
            obtain ⟨u, q1, q2, q3⟩ := h.res d7
            obtain ⟨q4, q5⟩ := q1 hnd'
            obtain ⟨s0, s1, s2, z0, z1, z2⟩ := lex_cells6 q5
            obtain ⟨Au, cu, rfl⟩ := own_form q3.o0
            refine wpOp_plain rfl rfl ?_
            go_simp
            exact ⟨_, rfl, { bel := h.bel.setCell (by exact Nat.le_refl _) _, siz := h.siz, kp := h.kp, k0 := h.k0, k10 := h.k10, oth := fun hk => absurd (dn_up d7) hk, sl := fun _ hk => absurd (dn_up d7) hk, res := fun _ => ⟨_, fun hk => absurd (dn_self hi) hk, fun _ => by simp [World.setCell, Array.getElem?_modify, q5], q3.store (by exact Nat.lt_succ_self _) _⟩, l7_4 := fun hj => dn_up (h.l7_4 (dn_of hi hj (by decide))), l7_6 := fun hj => dn_up (h.l7_6 (dn_of hi hj (by decide))), l7_5 := fun hj => dn_up (h.l7_5 (dn_of hi hj (by decide))), l6_5 := fun hj => dn_up (h.l6_5 (dn_of hi hj (by decide))), l10_7 := fun _ => dn_up d7, p0 := rn hi h.p0, p1 := rn hi h.p1, p2 := rn hi h.p2, p3 := rn hi h.p3, p4 := rn hi h.p4, p5 := rn hi h.p5, p8 := rn hi h.p8, p9 := rn hi h.p9 }⟩
        case gendw =>
          intro d a wc hd hI hall
          obtain ⟨t, rfl, h⟩ := hI
          have hdn : ∀ j, j < 11 → dn d j := fun j hj => dn_all hd hall hj
          have hd : ∀ j, (_ : j < 11 := by decide) → dn d j := fun j hj => hdn j hj
          obtain ⟨t82, x82⟩ : ∃ v, t[82]? = some v := ⟨_, Array.getElem?_eq_getElem (by have := h.siz; omega)⟩
          obtain ⟨t83, x83⟩ : ∃ v, t[83]? = some v := ⟨_, Array.getElem?_eq_getElem (by have := h.siz; omega)⟩
          have hfe := frame_eq [(76, _), (77, _), (78, _), (79, _), (80, _), (81, _), (82, _), (83, _), (84, _), (85, _)] (h.siz.trans rfl) h.kp rfl ⟨h.p0 (hd 0), h.p1 (hd 1), h.p2 (hd 2), h.p3 (hd 3), h.p4 (hd 4), h.p5 (hd 5), x82, x83, h.p8 (hd 8), h.p9 (hd 9), trivial⟩
          simp only [List.foldl_cons, List.foldl_nil, List.setIfInBounds_toArray, List.set_cons_succ, List.set_cons_zero] at hfe
          have hbc := h.bel
          subst hfe
          have hres := h.res (hd 7)
          have h9d := hd 10
          clear h hdn hall
          have hbc' := hbc
          obtain ⟨u, -, hfin, hown9⟩ := hres
          have hfin := hfin h9d
          have HBF := Lib.hid ((HB.out.mono (by omega : Lb ≤ w.heap.size)).trans ((HBN.out.mono (by omega : Lb ≤ _)).trans hbc'))
          have HFI := Lib.hid hfin
          have HOW := Lib.hid hown9
          clear hbc hbc' hfin hown9 h9d
          go_wp2_with fail
          go_ret
          exact retLine_some (b := kb) HLQ.out HBF.out ⟨_, _, _, HFI.out, HOW.out⟩
    · by_cases hv : s0.toList = [101, 110, 100, 105, 110, 103] ∧ (x.clitics.length : Int) = 0
      · obtain ⟨hv0, hv1⟩ := hv
        obtain ⟨A2, c2, rfl⟩ := own_form HROWS.out.o2
        clear hw
        go_wp2_with fail
        refine (r1Number_any b1 4 _ HZ1.out (by decide) (by decide)).mono ?_
        rintro e w3 ⟨rfl, rfl⟩
        obtain ⟨kv, hkv⟩ : ∃ kv, kv = Lx.numV b1.data.toList 4 := ⟨_, rfl⟩
        obtain ⟨kb, hkb⟩ : ∃ kb, kb = Lx.numB b1.data.toList 4 := ⟨_, rfl⟩
        rw [← hkv, ← hkb]
        have HKV := Lib.hid hkv
        have HKB := Lib.hid hkb
        clear hkv hkb
        go_wp2_with fail
        have HCN := HCELL
        have HROWN := HROWS
        have HK2 := Lib.hid hk2
        have HK3 := Lib.hid hk3
        obtain ⟨ii, hii, hzi, hsi, hbi⟩ := info_parts info_Ending
        have hLW : Lb ≤ w3.heap.size := by omega
        have hLlt' : Lb < w3.heap.size := by omega
        have hbW : b < w3.heap.size := hb
        have hfit : Lx.Ending.fits ⟨kv, d1, f1, nv⟩ := ⟨by have := HZ2.out; simp only [maxLen]; omega, by have := HZ3.out; simp only [maxLen]; omega⟩
        have HLQ : Hid (Lx.lineV x ws = if kb = true then some ⟨x.entries, x.endings ++ [⟨kv, d1, f1, nv⟩], x.clitics⟩ else none) := Lib.hid (by
          have hv0' := hv0
          rw [Go.Lib.toList_data] at hv0'
          rw [HLV.out, if_neg (by rw [hv0']; rintro ⟨q, -⟩; exact absurd q (by decide)), if_pos ⟨hv0', by omega⟩, HKB.out, HKV.out, HNV.out, HNM.out]
          simp [Lx.bs_data])
        clear hv0 hv1 hL0 hL1 hL2 hc0 hcm hk1 hk2 hk3 h4I hlc hc
        refine wp_region_inv2T (fun T0 => LeI T0 w3 Lb v0 v1 (.slice A2 x.clitics.length c2) b off l.length c kv d1 f1 nv x) (by kernel_rfl) (by kernel_rfl) ?g0e ?gstepe ?gende
        case g0e =>
          have hno : ∀ j, ¬ dn (Array.replicate 19 false) j := by
            intro j; unfold dn; by_cases hj : j < 19 <;> simp [Array.getD, hj]
          have na : ∀ {j : Nat} {Z : Prop}, dn (Array.replicate 19 false) j → Z := fun hj => absurd hj (hno _)
          exact ⟨_, rfl, { bel := (Below.refl _ _).drew, siz := rfl, kp := fun _ _ => rfl, k0 := rfl, k5 := rfl, k6 := rfl, k11 := rfl, p0 := na, p1 := na, p2 := na, p3 := na, p4 := na, p5 := na, p6 := na, p7 := na, p8 := na, p9 := na, p10 := na, p11 := na, p12 := na, p13 := na, p16 := na, p17 := na, oth := fun _ => (Below.refl _ _).drew, sl := fun hj => absurd hj (hno _), res := fun hj => absurd hj (hno _), l15_4 := fun hj => absurd hj (hno _), l15_14 := fun hj => absurd hj (hno _), l15_8 := fun hj => absurd hj (hno _), l15_11 := fun hj => absurd hj (hno _), l14_8 := fun hj => absurd hj (hno _), l14_11 := fun hj => absurd hj (hno _), l13_8 := fun hj => absurd hj (hno _), l13_11 := fun hj => absurd hj (hno _), l18_15 := fun hj => absurd hj (hno _) }⟩
        case gstepe =>
          intro T0 d a wc i hd hI hi
          obtain ⟨hlt, hnd, hpre⟩ := mem_ready hi
          have hd' : d.size = 19 := hd
          have hin : i < 19 := hlt
          clear hi hd hlt
          obtain ⟨t, rfl, h⟩ := hI
          have hcs : i = 0 ∨ i = 1 ∨ i = 2 ∨ i = 3 ∨ i = 4 ∨ i = 5 ∨ i = 6 ∨ i = 7 ∨ i = 8 ∨ i = 9 ∨ i = 10 ∨ i = 11 ∨ i = 12 ∨ i = 13 ∨ i = 14 ∨ i = 15 ∨ i = 16 ∨ i = 17 ∨ i = 18 := by omega
          rcases hcs with rfl | rfl | rfl | rfl | rfl | rfl | rfl | rfl | rfl | rfl | rfl | rfl | rfl | rfl | rfl | rfl | rfl | rfl | rfl
          · have hi : 0 < d.size := by omega
            have q0 := h.k0
            refine wpOp_plain rfl rfl ?_
            go_simp
            exact ⟨_, rfl, { bel := h.bel, siz := (by simpa using h.siz), kp := rk h.kp, k0 := rs h.k0, k5 := rs h.k5, k6 := rs h.k6, k11 := rs h.k11, oth := fun hk => h.oth (fun q => hk (dn_up q)), sl := fun hj hk => by obtain ⟨g, e1, e2⟩ := h.sl (dn_of hi hj (by decide)) (fun q => hk (dn_up q)); exact ⟨g, (set_other (by decide)).trans e1, e2⟩, res := fun hj => by obtain ⟨u, e1, e2, e3⟩ := h.res (dn_of hi hj (by decide)); exact ⟨u, fun hk => ⟨(set_other (by decide)).trans (e1 (fun q => hk (dn_up q))).1, (e1 (fun q => hk (dn_up q))).2⟩, fun h9 => e2 (dn_of hi h9 (by decide)), e3⟩, l15_4 := fun hj => dn_up (h.l15_4 (dn_of hi hj (by decide))), l15_14 := fun hj => dn_up (h.l15_14 (dn_of hi hj (by decide))), l15_8 := fun hj => dn_up (h.l15_8 (dn_of hi hj (by decide))), l15_11 := fun hj => dn_up (h.l15_11 (dn_of hi hj (by decide))), l14_8 := fun hj => dn_up (h.l14_8 (dn_of hi hj (by decide))), l14_11 := fun hj => dn_up (h.l14_11 (dn_of hi hj (by decide))), l13_8 := fun hj => dn_up (h.l13_8 (dn_of hi hj (by decide))), l13_11 := fun hj => dn_up (h.l13_11 (dn_of hi hj (by decide))), l18_15 := fun hj => dn_up (h.l18_15 (dn_of hi hj (by decide))), p0 := fun _ => set_same (by have := h.siz; omega), p1 := rp hi h.p1, p2 := rp hi h.p2, p3 := rp hi h.p3, p4 := rp hi h.p4, p5 := rp hi h.p5, p6 := rp hi h.p6, p7 := rp hi h.p7, p8 := rp hi h.p8, p9 := rp hi h.p9, p10 := rp hi h.p10, p11 := rp hi h.p11, p12 := rp hi h.p12, p13 := rp hi h.p13, p16 := rp hi h.p16, p17 := rp hi h.p17 }⟩
          · have hi : 1 < d.size := by omega
            have q0 := h.k0
            refine wpOp_plain rfl rfl ?_
            go_simp
            exact ⟨_, rfl, { bel := h.bel, siz := (by simpa using h.siz), kp := rk h.kp, k0 := rs h.k0, k5 := rs h.k5, k6 := rs h.k6, k11 := rs h.k11, oth := fun hk => h.oth (fun q => hk (dn_up q)), sl := fun hj hk => by obtain ⟨g, e1, e2⟩ := h.sl (dn_of hi hj (by decide)) (fun q => hk (dn_up q)); exact ⟨g, (set_other (by decide)).trans e1, e2⟩, res := fun hj => by obtain ⟨u, e1, e2, e3⟩ := h.res (dn_of hi hj (by decide)); exact ⟨u, fun hk => ⟨(set_other (by decide)).trans (e1 (fun q => hk (dn_up q))).1, (e1 (fun q => hk (dn_up q))).2⟩, fun h9 => e2 (dn_of hi h9 (by decide)), e3⟩, l15_4 := fun hj => dn_up (h.l15_4 (dn_of hi hj (by decide))), l15_14 := fun hj => dn_up (h.l15_14 (dn_of hi hj (by decide))), l15_8 := fun hj => dn_up (h.l15_8 (dn_of hi hj (by decide))), l15_11 := fun hj => dn_up (h.l15_11 (dn_of hi hj (by decide))), l14_8 := fun hj => dn_up (h.l14_8 (dn_of hi hj (by decide))), l14_11 := fun hj => dn_up (h.l14_11 (dn_of hi hj (by decide))), l13_8 := fun hj => dn_up (h.l13_8 (dn_of hi hj (by decide))), l13_11 := fun hj => dn_up (h.l13_11 (dn_of hi hj (by decide))), l18_15 := fun hj => dn_up (h.l18_15 (dn_of hi hj (by decide))), p0 := rp hi h.p0, p1 := fun _ => set_same (by have := h.siz; omega), p2 := rp hi h.p2, p3 := rp hi h.p3, p4 := rp hi h.p4, p5 := rp hi h.p5, p6 := rp hi h.p6, p7 := rp hi h.p7, p8 := rp hi h.p8, p9 := rp hi h.p9, p10 := rp hi h.p10, p11 := rp hi h.p11, p12 := rp hi h.p12, p13 := rp hi h.p13, p16 := rp hi h.p16, p17 := rp hi h.p17 }⟩
          · have hi : 2 < d.size := by omega
            have e1 := h.p1 (hpre _ rfl ⟨1, .data⟩ (by simp) rfl)
            refine wpOp_plain rfl rfl ?_
            go_simp
            exact ⟨_, rfl, { bel := h.bel, siz := (by simpa using h.siz), kp := rk h.kp, k0 := rs h.k0, k5 := rs h.k5, k6 := rs h.k6, k11 := rs h.k11, oth := fun hk => h.oth (fun q => hk (dn_up q)), sl := fun hj hk => by obtain ⟨g, e1, e2⟩ := h.sl (dn_of hi hj (by decide)) (fun q => hk (dn_up q)); exact ⟨g, (set_other (by decide)).trans e1, e2⟩, res := fun hj => by obtain ⟨u, e1, e2, e3⟩ := h.res (dn_of hi hj (by decide)); exact ⟨u, fun hk => ⟨(set_other (by decide)).trans (e1 (fun q => hk (dn_up q))).1, (e1 (fun q => hk (dn_up q))).2⟩, fun h9 => e2 (dn_of hi h9 (by decide)), e3⟩, l15_4 := fun hj => dn_up (h.l15_4 (dn_of hi hj (by decide))), l15_14 := fun hj => dn_up (h.l15_14 (dn_of hi hj (by decide))), l15_8 := fun hj => dn_up (h.l15_8 (dn_of hi hj (by decide))), l15_11 := fun hj => dn_up (h.l15_11 (dn_of hi hj (by decide))), l14_8 := fun hj => dn_up (h.l14_8 (dn_of hi hj (by decide))), l14_11 := fun hj => dn_up (h.l14_11 (dn_of hi hj (by decide))), l13_8 := fun hj => dn_up (h.l13_8 (dn_of hi hj (by decide))), l13_11 := fun hj => dn_up (h.l13_11 (dn_of hi hj (by decide))), l18_15 := fun hj => dn_up (h.l18_15 (dn_of hi hj (by decide))), p0 := rp hi h.p0, p1 := rp hi h.p1, p2 := fun _ => set_same (by have := h.siz; omega), p3 := rp hi h.p3, p4 := rp hi h.p4, p5 := rp hi h.p5, p6 := rp hi h.p6, p7 := rp hi h.p7, p8 := rp hi h.p8, p9 := rp hi h.p9, p10 := rp hi h.p10, p11 := rp hi h.p11, p12 := rp hi h.p12, p13 := rp hi h.p13, p16 := rp hi h.p16, p17 := rp hi h.p17 }⟩
          · have hi : 3 < d.size := by omega
            have e2 := h.p2 (hpre _ rfl ⟨2, .data⟩ (by simp) rfl)
            refine wpOp_plain rfl rfl ?_
            go_simp
            exact ⟨_, rfl, { bel := h.bel, siz := (by simpa using h.siz), kp := rk h.kp, k0 := rs h.k0, k5 := rs h.k5, k6 := rs h.k6, k11 := rs h.k11, oth := fun hk => h.oth (fun q => hk (dn_up q)), sl := fun hj hk => by obtain ⟨g, e1, e2⟩ := h.sl (dn_of hi hj (by decide)) (fun q => hk (dn_up q)); exact ⟨g, (set_other (by decide)).trans e1, e2⟩, res := fun hj => by obtain ⟨u, e1, e2, e3⟩ := h.res (dn_of hi hj (by decide)); exact ⟨u, fun hk => ⟨(set_other (by decide)).trans (e1 (fun q => hk (dn_up q))).1, (e1 (fun q => hk (dn_up q))).2⟩, fun h9 => e2 (dn_of hi h9 (by decide)), e3⟩, l15_4 := fun hj => dn_up (h.l15_4 (dn_of hi hj (by decide))), l15_14 := fun hj => dn_up (h.l15_14 (dn_of hi hj (by decide))), l15_8 := fun hj => dn_up (h.l15_8 (dn_of hi hj (by decide))), l15_11 := fun hj => dn_up (h.l15_11 (dn_of hi hj (by decide))), l14_8 := fun hj => dn_up (h.l14_8 (dn_of hi hj (by decide))), l14_11 := fun hj => dn_up (h.l14_11 (dn_of hi hj (by decide))), l13_8 := fun hj => dn_up (h.l13_8 (dn_of hi hj (by decide))), l13_11 := fun hj => dn_up (h.l13_11 (dn_of hi hj (by decide))), l18_15 := fun hj => dn_up (h.l18_15 (dn_of hi hj (by decide))), p0 := rp hi h.p0, p1 := rp hi h.p1, p2 := rp hi h.p2, p3 := fun _ => set_same (by have := h.siz; omega), p4 := rp hi h.p4, p5 := rp hi h.p5, p6 := rp hi h.p6, p7 := rp hi h.p7, p8 := rp hi h.p8, p9 := rp hi h.p9, p10 := rp hi h.p10, p11 := rp hi h.p11, p12 := rp hi h.p12, p13 := rp hi h.p13, p16 := rp hi h.p16, p17 := rp hi h.p17 }⟩
          · have hi : 4 < d.size := by omega
            have e3 := h.p3 (hpre _ rfl ⟨3, .data⟩ (by simp) rfl)
            have hnd' := not_dn hi hnd
            have h7 : ¬ dn d 15 := fun q => hnd' (h.l15_4 q)
            obtain ⟨s0, s1, s2, -, -, -⟩ := lex_cells6 (((h.oth h7).block Lb hLlt').trans HCN.out)
            refine wpOp_plain rfl rfl ?_
            go_simp
            exact ⟨_, rfl, { bel := h.bel, siz := (by simpa using h.siz), kp := rk h.kp, k0 := rs h.k0, k5 := rs h.k5, k6 := rs h.k6, k11 := rs h.k11, oth := fun hk => h.oth (fun q => hk (dn_up q)), sl := fun hj hk => by obtain ⟨g, e1, e2⟩ := h.sl (dn_of hi hj (by decide)) (fun q => hk (dn_up q)); exact ⟨g, (set_other (by decide)).trans e1, e2⟩, res := fun hj => by obtain ⟨u, e1, e2, e3⟩ := h.res (dn_of hi hj (by decide)); exact ⟨u, fun hk => ⟨(set_other (by decide)).trans (e1 (fun q => hk (dn_up q))).1, (e1 (fun q => hk (dn_up q))).2⟩, fun h9 => e2 (dn_of hi h9 (by decide)), e3⟩, l15_4 := fun hj => dn_up (h.l15_4 (dn_of hi hj (by decide))), l15_14 := fun hj => dn_up (h.l15_14 (dn_of hi hj (by decide))), l15_8 := fun hj => dn_up (h.l15_8 (dn_of hi hj (by decide))), l15_11 := fun hj => dn_up (h.l15_11 (dn_of hi hj (by decide))), l14_8 := fun hj => dn_up (h.l14_8 (dn_of hi hj (by decide))), l14_11 := fun hj => dn_up (h.l14_11 (dn_of hi hj (by decide))), l13_8 := fun hj => dn_up (h.l13_8 (dn_of hi hj (by decide))), l13_11 := fun hj => dn_up (h.l13_11 (dn_of hi hj (by decide))), l18_15 := fun hj => dn_up (h.l18_15 (dn_of hi hj (by decide))), p0 := rp hi h.p0, p1 := rp hi h.p1, p2 := rp hi h.p2, p3 := rp hi h.p3, p4 := fun _ => set_same (by have := h.siz; omega), p5 := rp hi h.p5, p6 := rp hi h.p6, p7 := rp hi h.p7, p8 := rp hi h.p8, p9 := rp hi h.p9, p10 := rp hi h.p10, p11 := rp hi h.p11, p12 := rp hi h.p12, p13 := rp hi h.p13, p16 := rp hi h.p16, p17 := rp hi h.p17 }⟩
          · have hi : 5 < d.size := by omega
            have q11 := h.k11
            refine wpOp_plain rfl rfl ?_
            go_simp
            exact ⟨_, rfl, { bel := h.bel, siz := (by simpa using h.siz), kp := rk h.kp, k0 := rs h.k0, k5 := rs h.k5, k6 := rs h.k6, k11 := rs h.k11, oth := fun hk => h.oth (fun q => hk (dn_up q)), sl := fun hj hk => by obtain ⟨g, e1, e2⟩ := h.sl (dn_of hi hj (by decide)) (fun q => hk (dn_up q)); exact ⟨g, (set_other (by decide)).trans e1, e2⟩, res := fun hj => by obtain ⟨u, e1, e2, e3⟩ := h.res (dn_of hi hj (by decide)); exact ⟨u, fun hk => ⟨(set_other (by decide)).trans (e1 (fun q => hk (dn_up q))).1, (e1 (fun q => hk (dn_up q))).2⟩, fun h9 => e2 (dn_of hi h9 (by decide)), e3⟩, l15_4 := fun hj => dn_up (h.l15_4 (dn_of hi hj (by decide))), l15_14 := fun hj => dn_up (h.l15_14 (dn_of hi hj (by decide))), l15_8 := fun hj => dn_up (h.l15_8 (dn_of hi hj (by decide))), l15_11 := fun hj => dn_up (h.l15_11 (dn_of hi hj (by decide))), l14_8 := fun hj => dn_up (h.l14_8 (dn_of hi hj (by decide))), l14_11 := fun hj => dn_up (h.l14_11 (dn_of hi hj (by decide))), l13_8 := fun hj => dn_up (h.l13_8 (dn_of hi hj (by decide))), l13_11 := fun hj => dn_up (h.l13_11 (dn_of hi hj (by decide))), l18_15 := fun hj => dn_up (h.l18_15 (dn_of hi hj (by decide))), p0 := rp hi h.p0, p1 := rp hi h.p1, p2 := rp hi h.p2, p3 := rp hi h.p3, p4 := rp hi h.p4, p5 := fun _ => set_same (by have := h.siz; omega), p6 := rp hi h.p6, p7 := rp hi h.p7, p8 := rp hi h.p8, p9 := rp hi h.p9, p10 := rp hi h.p10, p11 := rp hi h.p11, p12 := rp hi h.p12, p13 := rp hi h.p13, p16 := rp hi h.p16, p17 := rp hi h.p17 }⟩
          · have hi : 6 < d.size := by omega
            have q5 := h.k5
            refine wpOp_plain rfl rfl ?_
            go_simp
            exact ⟨_, rfl, { bel := h.bel, siz := (by simpa using h.siz), kp := rk h.kp, k0 := rs h.k0, k5 := rs h.k5, k6 := rs h.k6, k11 := rs h.k11, oth := fun hk => h.oth (fun q => hk (dn_up q)), sl := fun hj hk => by obtain ⟨g, e1, e2⟩ := h.sl (dn_of hi hj (by decide)) (fun q => hk (dn_up q)); exact ⟨g, (set_other (by decide)).trans e1, e2⟩, res := fun hj => by obtain ⟨u, e1, e2, e3⟩ := h.res (dn_of hi hj (by decide)); exact ⟨u, fun hk => ⟨(set_other (by decide)).trans (e1 (fun q => hk (dn_up q))).1, (e1 (fun q => hk (dn_up q))).2⟩, fun h9 => e2 (dn_of hi h9 (by decide)), e3⟩, l15_4 := fun hj => dn_up (h.l15_4 (dn_of hi hj (by decide))), l15_14 := fun hj => dn_up (h.l15_14 (dn_of hi hj (by decide))), l15_8 := fun hj => dn_up (h.l15_8 (dn_of hi hj (by decide))), l15_11 := fun hj => dn_up (h.l15_11 (dn_of hi hj (by decide))), l14_8 := fun hj => dn_up (h.l14_8 (dn_of hi hj (by decide))), l14_11 := fun hj => dn_up (h.l14_11 (dn_of hi hj (by decide))), l13_8 := fun hj => dn_up (h.l13_8 (dn_of hi hj (by decide))), l13_11 := fun hj => dn_up (h.l13_11 (dn_of hi hj (by decide))), l18_15 := fun hj => dn_up (h.l18_15 (dn_of hi hj (by decide))), p0 := rp hi h.p0, p1 := rp hi h.p1, p2 := rp hi h.p2, p3 := rp hi h.p3, p4 := rp hi h.p4, p5 := rp hi h.p5, p6 := fun _ => set_same (by have := h.siz; omega), p7 := rp hi h.p7, p8 := rp hi h.p8, p9 := rp hi h.p9, p10 := rp hi h.p10, p11 := rp hi h.p11, p12 := rp hi h.p12, p13 := rp hi h.p13, p16 := rp hi h.p16, p17 := rp hi h.p17 }⟩
          · have hi : 7 < d.size := by omega
            have e6 := h.p6 (hpre _ rfl ⟨6, .data⟩ (by simp) rfl)
            refine wpOp_plain rfl rfl ?_
            go_simp
            exact ⟨_, rfl, { bel := h.bel, siz := (by simpa using h.siz), kp := rk h.kp, k0 := rs h.k0, k5 := rs h.k5, k6 := rs h.k6, k11 := rs h.k11, oth := fun hk => h.oth (fun q => hk (dn_up q)), sl := fun hj hk => by obtain ⟨g, e1, e2⟩ := h.sl (dn_of hi hj (by decide)) (fun q => hk (dn_up q)); exact ⟨g, (set_other (by decide)).trans e1, e2⟩, res := fun hj => by obtain ⟨u, e1, e2, e3⟩ := h.res (dn_of hi hj (by decide)); exact ⟨u, fun hk => ⟨(set_other (by decide)).trans (e1 (fun q => hk (dn_up q))).1, (e1 (fun q => hk (dn_up q))).2⟩, fun h9 => e2 (dn_of hi h9 (by decide)), e3⟩, l15_4 := fun hj => dn_up (h.l15_4 (dn_of hi hj (by decide))), l15_14 := fun hj => dn_up (h.l15_14 (dn_of hi hj (by decide))), l15_8 := fun hj => dn_up (h.l15_8 (dn_of hi hj (by decide))), l15_11 := fun hj => dn_up (h.l15_11 (dn_of hi hj (by decide))), l14_8 := fun hj => dn_up (h.l14_8 (dn_of hi hj (by decide))), l14_11 := fun hj => dn_up (h.l14_11 (dn_of hi hj (by decide))), l13_8 := fun hj => dn_up (h.l13_8 (dn_of hi hj (by decide))), l13_11 := fun hj => dn_up (h.l13_11 (dn_of hi hj (by decide))), l18_15 := fun hj => dn_up (h.l18_15 (dn_of hi hj (by decide))), p0 := rp hi h.p0, p1 := rp hi h.p1, p2 := rp hi h.p2, p3 := rp hi h.p3, p4 := rp hi h.p4, p5 := rp hi h.p5, p6 := rp hi h.p6, p7 := fun _ => set_same (by have := h.siz; omega), p8 := rp hi h.p8, p9 := rp hi h.p9, p10 := rp hi h.p10, p11 := rp hi h.p11, p12 := rp hi h.p12, p13 := rp hi h.p13, p16 := rp hi h.p16, p17 := rp hi h.p17 }⟩
          · have hi : 8 < d.size := by omega
            have e7 := h.p7 (hpre _ rfl ⟨7, .data⟩ (by simp) rfl)
            have hnd' := not_dn hi hnd
            have h7 : ¬ dn d 15 := fun q => hnd' (h.l15_8 q)
            have m8 := ((h.oth h7).cell (p := ⟨b, off + 2, none⟩) hbW).trans HK2.out
            refine wpOp_plain rfl rfl ?_
            go_simp
            exact ⟨_, rfl, { bel := h.bel, siz := (by simpa using h.siz), kp := rk h.kp, k0 := rs h.k0, k5 := rs h.k5, k6 := rs h.k6, k11 := rs h.k11, oth := fun hk => h.oth (fun q => hk (dn_up q)), sl := fun hj hk => by obtain ⟨g, e1, e2⟩ := h.sl (dn_of hi hj (by decide)) (fun q => hk (dn_up q)); exact ⟨g, (set_other (by decide)).trans e1, e2⟩, res := fun hj => by obtain ⟨u, e1, e2, e3⟩ := h.res (dn_of hi hj (by decide)); exact ⟨u, fun hk => ⟨(set_other (by decide)).trans (e1 (fun q => hk (dn_up q))).1, (e1 (fun q => hk (dn_up q))).2⟩, fun h9 => e2 (dn_of hi h9 (by decide)), e3⟩, l15_4 := fun hj => dn_up (h.l15_4 (dn_of hi hj (by decide))), l15_14 := fun hj => dn_up (h.l15_14 (dn_of hi hj (by decide))), l15_8 := fun hj => dn_up (h.l15_8 (dn_of hi hj (by decide))), l15_11 := fun hj => dn_up (h.l15_11 (dn_of hi hj (by decide))), l14_8 := fun hj => dn_up (h.l14_8 (dn_of hi hj (by decide))), l14_11 := fun hj => dn_up (h.l14_11 (dn_of hi hj (by decide))), l13_8 := fun hj => dn_up (h.l13_8 (dn_of hi hj (by decide))), l13_11 := fun hj => dn_up (h.l13_11 (dn_of hi hj (by decide))), l18_15 := fun hj => dn_up (h.l18_15 (dn_of hi hj (by decide))), p0 := rp hi h.p0, p1 := rp hi h.p1, p2 := rp hi h.p2, p3 := rp hi h.p3, p4 := rp hi h.p4, p5 := rp hi h.p5, p6 := rp hi h.p6, p7 := rp hi h.p7, p8 := fun _ => set_same (by have := h.siz; omega), p9 := rp hi h.p9, p10 := rp hi h.p10, p11 := rp hi h.p11, p12 := rp hi h.p12, p13 := rp hi h.p13, p16 := rp hi h.p16, p17 := rp hi h.p17 }⟩
          · have hi : 9 < d.size := by omega
            have q5 := h.k5
            refine wpOp_plain rfl rfl ?_
            go_simp
            exact ⟨_, rfl, { bel := h.bel, siz := (by simpa using h.siz), kp := rk h.kp, k0 := rs h.k0, k5 := rs h.k5, k6 := rs h.k6, k11 := rs h.k11, oth := fun hk => h.oth (fun q => hk (dn_up q)), sl := fun hj hk => by obtain ⟨g, e1, e2⟩ := h.sl (dn_of hi hj (by decide)) (fun q => hk (dn_up q)); exact ⟨g, (set_other (by decide)).trans e1, e2⟩, res := fun hj => by obtain ⟨u, e1, e2, e3⟩ := h.res (dn_of hi hj (by decide)); exact ⟨u, fun hk => ⟨(set_other (by decide)).trans (e1 (fun q => hk (dn_up q))).1, (e1 (fun q => hk (dn_up q))).2⟩, fun h9 => e2 (dn_of hi h9 (by decide)), e3⟩, l15_4 := fun hj => dn_up (h.l15_4 (dn_of hi hj (by decide))), l15_14 := fun hj => dn_up (h.l15_14 (dn_of hi hj (by decide))), l15_8 := fun hj => dn_up (h.l15_8 (dn_of hi hj (by decide))), l15_11 := fun hj => dn_up (h.l15_11 (dn_of hi hj (by decide))), l14_8 := fun hj => dn_up (h.l14_8 (dn_of hi hj (by decide))), l14_11 := fun hj => dn_up (h.l14_11 (dn_of hi hj (by decide))), l13_8 := fun hj => dn_up (h.l13_8 (dn_of hi hj (by decide))), l13_11 := fun hj => dn_up (h.l13_11 (dn_of hi hj (by decide))), l18_15 := fun hj => dn_up (h.l18_15 (dn_of hi hj (by decide))), p0 := rp hi h.p0, p1 := rp hi h.p1, p2 := rp hi h.p2, p3 := rp hi h.p3, p4 := rp hi h.p4, p5 := rp hi h.p5, p6 := rp hi h.p6, p7 := rp hi h.p7, p8 := rp hi h.p8, p9 := fun _ => set_same (by have := h.siz; omega), p10 := rp hi h.p10, p11 := rp hi h.p11, p12 := rp hi h.p12, p13 := rp hi h.p13, p16 := rp hi h.p16, p17 := rp hi h.p17 }⟩
          · have hi : 10 < d.size := by omega
            have e9 := h.p9 (hpre _ rfl ⟨9, .data⟩ (by simp) rfl)
            refine wpOp_plain rfl rfl ?_
            go_simp
            exact ⟨_, rfl, { bel := h.bel, siz := (by simpa using h.siz), kp := rk h.kp, k0 := rs h.k0, k5 := rs h.k5, k6 := rs h.k6, k11 := rs h.k11, oth := fun hk => h.oth (fun q => hk (dn_up q)), sl := fun hj hk => by obtain ⟨g, e1, e2⟩ := h.sl (dn_of hi hj (by decide)) (fun q => hk (dn_up q)); exact ⟨g, (set_other (by decide)).trans e1, e2⟩, res := fun hj => by obtain ⟨u, e1, e2, e3⟩ := h.res (dn_of hi hj (by decide)); exact ⟨u, fun hk => ⟨(set_other (by decide)).trans (e1 (fun q => hk (dn_up q))).1, (e1 (fun q => hk (dn_up q))).2⟩, fun h9 => e2 (dn_of hi h9 (by decide)), e3⟩, l15_4 := fun hj => dn_up (h.l15_4 (dn_of hi hj (by decide))), l15_14 := fun hj => dn_up (h.l15_14 (dn_of hi hj (by decide))), l15_8 := fun hj => dn_up (h.l15_8 (dn_of hi hj (by decide))), l15_11 := fun hj => dn_up (h.l15_11 (dn_of hi hj (by decide))), l14_8 := fun hj => dn_up (h.l14_8 (dn_of hi hj (by decide))), l14_11 := fun hj => dn_up (h.l14_11 (dn_of hi hj (by decide))), l13_8 := fun hj => dn_up (h.l13_8 (dn_of hi hj (by decide))), l13_11 := fun hj => dn_up (h.l13_11 (dn_of hi hj (by decide))), l18_15 := fun hj => dn_up (h.l18_15 (dn_of hi hj (by decide))), p0 := rp hi h.p0, p1 := rp hi h.p1, p2 := rp hi h.p2, p3 := rp hi h.p3, p4 := rp hi h.p4, p5 := rp hi h.p5, p6 := rp hi h.p6, p7 := rp hi h.p7, p8 := rp hi h.p8, p9 := rp hi h.p9, p10 := fun _ => set_same (by have := h.siz; omega), p11 := rp hi h.p11, p12 := rp hi h.p12, p13 := rp hi h.p13, p16 := rp hi h.p16, p17 := rp hi h.p17 }⟩
          · have hi : 11 < d.size := by omega
            have e10 := h.p10 (hpre _ rfl ⟨10, .data⟩ (by simp) rfl)
            have hnd' := not_dn hi hnd
            have h7 : ¬ dn d 15 := fun q => hnd' (h.l15_11 q)
            have m11 := ((h.oth h7).cell (p := ⟨b, off + 3, none⟩) hbW).trans HK3.out
            refine wpOp_plain rfl rfl ?_
            go_simp
            exact ⟨_, rfl, { bel := h.bel, siz := (by simpa using h.siz), kp := rk h.kp, k0 := rs h.k0, k5 := rs h.k5, k6 := rs h.k6, k11 := rs h.k11, oth := fun hk => h.oth (fun q => hk (dn_up q)), sl := fun hj hk => by obtain ⟨g, e1, e2⟩ := h.sl (dn_of hi hj (by decide)) (fun q => hk (dn_up q)); exact ⟨g, (set_other (by decide)).trans e1, e2⟩, res := fun hj => by obtain ⟨u, e1, e2, e3⟩ := h.res (dn_of hi hj (by decide)); exact ⟨u, fun hk => ⟨(set_other (by decide)).trans (e1 (fun q => hk (dn_up q))).1, (e1 (fun q => hk (dn_up q))).2⟩, fun h9 => e2 (dn_of hi h9 (by decide)), e3⟩, l15_4 := fun hj => dn_up (h.l15_4 (dn_of hi hj (by decide))), l15_14 := fun hj => dn_up (h.l15_14 (dn_of hi hj (by decide))), l15_8 := fun hj => dn_up (h.l15_8 (dn_of hi hj (by decide))), l15_11 := fun hj => dn_up (h.l15_11 (dn_of hi hj (by decide))), l14_8 := fun hj => dn_up (h.l14_8 (dn_of hi hj (by decide))), l14_11 := fun hj => dn_up (h.l14_11 (dn_of hi hj (by decide))), l13_8 := fun hj => dn_up (h.l13_8 (dn_of hi hj (by decide))), l13_11 := fun hj => dn_up (h.l13_11 (dn_of hi hj (by decide))), l18_15 := fun hj => dn_up (h.l18_15 (dn_of hi hj (by decide))), p0 := rp hi h.p0, p1 := rp hi h.p1, p2 := rp hi h.p2, p3 := rp hi h.p3, p4 := rp hi h.p4, p5 := rp hi h.p5, p6 := rp hi h.p6, p7 := rp hi h.p7, p8 := rp hi h.p8, p9 := rp hi h.p9, p10 := rp hi h.p10, p11 := fun _ => set_same (by have := h.siz; omega), p12 := rp hi h.p12, p13 := rp hi h.p13, p16 := rp hi h.p16, p17 := rp hi h.p17 }⟩
          · have hi : 12 < d.size := by omega
            have q6 := h.k6
            refine wpOp_plain rfl rfl ?_
            go_simp
            exact ⟨_, rfl, { bel := h.bel, siz := (by simpa using h.siz), kp := rk h.kp, k0 := rs h.k0, k5 := rs h.k5, k6 := rs h.k6, k11 := rs h.k11, oth := fun hk => h.oth (fun q => hk (dn_up q)), sl := fun hj hk => by obtain ⟨g, e1, e2⟩ := h.sl (dn_of hi hj (by decide)) (fun q => hk (dn_up q)); exact ⟨g, (set_other (by decide)).trans e1, e2⟩, res := fun hj => by obtain ⟨u, e1, e2, e3⟩ := h.res (dn_of hi hj (by decide)); exact ⟨u, fun hk => ⟨(set_other (by decide)).trans (e1 (fun q => hk (dn_up q))).1, (e1 (fun q => hk (dn_up q))).2⟩, fun h9 => e2 (dn_of hi h9 (by decide)), e3⟩, l15_4 := fun hj => dn_up (h.l15_4 (dn_of hi hj (by decide))), l15_14 := fun hj => dn_up (h.l15_14 (dn_of hi hj (by decide))), l15_8 := fun hj => dn_up (h.l15_8 (dn_of hi hj (by decide))), l15_11 := fun hj => dn_up (h.l15_11 (dn_of hi hj (by decide))), l14_8 := fun hj => dn_up (h.l14_8 (dn_of hi hj (by decide))), l14_11 := fun hj => dn_up (h.l14_11 (dn_of hi hj (by decide))), l13_8 := fun hj => dn_up (h.l13_8 (dn_of hi hj (by decide))), l13_11 := fun hj => dn_up (h.l13_11 (dn_of hi hj (by decide))), l18_15 := fun hj => dn_up (h.l18_15 (dn_of hi hj (by decide))), p0 := rp hi h.p0, p1 := rp hi h.p1, p2 := rp hi h.p2, p3 := rp hi h.p3, p4 := rp hi h.p4, p5 := rp hi h.p5, p6 := rp hi h.p6, p7 := rp hi h.p7, p8 := rp hi h.p8, p9 := rp hi h.p9, p10 := rp hi h.p10, p11 := rp hi h.p11, p12 := fun _ => set_same (by have := h.siz; omega), p13 := rp hi h.p13, p16 := rp hi h.p16, p17 := rp hi h.p17 }⟩
          · have hi : 13 < d.size := by omega
            have d5 : dn d 5 := hpre _ rfl ⟨5, .data⟩ (by simp) rfl
            have d8 : dn d 8 := hpre _ rfl ⟨8, .data⟩ (by simp) rfl
            have d11 : dn d 11 := hpre _ rfl ⟨11, .data⟩ (by simp) rfl
            have d12 : dn d 12 := hpre _ rfl ⟨12, .data⟩ (by simp) rfl
            have e5 := h.p5 d5
            have e8 := h.p8 d8
            have e11 := h.p11 d11
            have e12 := h.p12 d12
            refine wpOp_plain rfl rfl ?_
            go_simp
            exact ⟨_, rfl, { bel := h.bel, siz := (by simpa using h.siz), kp := rk h.kp, k0 := rs h.k0, k5 := rs h.k5, k6 := rs h.k6, k11 := rs h.k11, oth := fun hk => h.oth (fun q => hk (dn_up q)), sl := fun hj hk => by obtain ⟨g, e1, e2⟩ := h.sl (dn_of hi hj (by decide)) (fun q => hk (dn_up q)); exact ⟨g, (set_other (by decide)).trans e1, e2⟩, res := fun hj => by obtain ⟨u, e1, e2, e3⟩ := h.res (dn_of hi hj (by decide)); exact ⟨u, fun hk => ⟨(set_other (by decide)).trans (e1 (fun q => hk (dn_up q))).1, (e1 (fun q => hk (dn_up q))).2⟩, fun h9 => e2 (dn_of hi h9 (by decide)), e3⟩, l15_4 := fun hj => dn_up (h.l15_4 (dn_of hi hj (by decide))), l15_14 := fun hj => dn_up (h.l15_14 (dn_of hi hj (by decide))), l15_8 := fun hj => dn_up (h.l15_8 (dn_of hi hj (by decide))), l15_11 := fun hj => dn_up (h.l15_11 (dn_of hi hj (by decide))), l14_8 := fun hj => dn_up (h.l14_8 (dn_of hi hj (by decide))), l14_11 := fun hj => dn_up (h.l14_11 (dn_of hi hj (by decide))), l13_8 := fun _ => dn_up d8, l13_11 := fun _ => dn_up d11, l18_15 := fun hj => dn_up (h.l18_15 (dn_of hi hj (by decide))), p0 := rp hi h.p0, p1 := rp hi h.p1, p2 := rp hi h.p2, p3 := rp hi h.p3, p4 := rp hi h.p4, p5 := rp hi h.p5, p6 := rp hi h.p6, p7 := rp hi h.p7, p8 := rp hi h.p8, p9 := rp hi h.p9, p10 := rp hi h.p10, p11 := rp hi h.p11, p12 := rp hi h.p12, p13 := fun _ => set_same (by have := h.siz; omega), p16 := rp hi h.p16, p17 := rp hi h.p17 }⟩
          · have hi : 14 < d.size := by omega
            have hnd' := not_dn hi hnd
            have h7 : ¬ dn d 15 := fun q => hnd' (h.l15_14 q)
            have d13 : dn d 13 := hpre _ rfl ⟨13, .data⟩ (by simp) rfl
            have e13 := h.p13 d13
            have d8 : dn d 8 := h.l13_8 d13
            have d11 : dn d 11 := h.l13_11 d13
            have hb : Below wc.heap.size wc (wc.alloc (.cells #[.int .i64 kv, .string d1, .string f1, .int .i64 nv] 55)) := (Below.refl _ _).alloc (Nat.le_refl _) _
            refine wpOp_plain rfl rfl ?_
            go_simp
            exact ⟨_, rfl, { bel := h.bel.trans (hb.mono (Nat.le_trans hLW (h.oth h7).size)), siz := (by simpa using h.siz), kp := rk h.kp, k0 := rs h.k0, k5 := rs h.k5, k6 := rs h.k6, k11 := rs h.k11, oth := fun hk => (h.oth (fun q => hk (dn_up q))).trans (hb.mono (h.oth (fun q => hk (dn_up q))).size), sl := fun _ _ => ⟨wc.heap.size, set_same (by have := h.siz; omega), rds_block (xs := [⟨kv, d1, f1, nv⟩]) len_ending (heap_alloc_new _ _) rfl (by simp) (Nat.le_refl 1) (by decide)⟩, res := fun hj => absurd (h.l15_14 (dn_of hi hj (by decide))) hnd', l15_4 := fun hj => dn_up (h.l15_4 (dn_of hi hj (by decide))), l15_14 := fun hj => dn_up (h.l15_14 (dn_of hi hj (by decide))), l15_8 := fun hj => dn_up (h.l15_8 (dn_of hi hj (by decide))), l15_11 := fun hj => dn_up (h.l15_11 (dn_of hi hj (by decide))), l14_8 := fun _ => dn_up d8, l14_11 := fun _ => dn_up d11, l13_8 := fun hj => dn_up (h.l13_8 (dn_of hi hj (by decide))), l13_11 := fun hj => dn_up (h.l13_11 (dn_of hi hj (by decide))), l18_15 := fun hj => dn_up (h.l18_15 (dn_of hi hj (by decide))), p0 := rp hi h.p0, p1 := rp hi h.p1, p2 := rp hi h.p2, p3 := rp hi h.p3, p4 := rp hi h.p4, p5 := rp hi h.p5, p6 := rp hi h.p6, p7 := rp hi h.p7, p8 := rp hi h.p8, p9 := rp hi h.p9, p10 := rp hi h.p10, p11 := rp hi h.p11, p12 := rp hi h.p12, p13 := rp hi h.p13, p16 := rp hi h.p16, p17 := rp hi h.p17 }⟩
          · have hi : 15 < d.size := by omega
            have hnd' := not_dn hi hnd
            have h7 := hnd'
            have d4 : dn d 4 := hpre _ rfl ⟨4, .data⟩ (by simp) rfl
            have d14 : dn d 14 := hpre _ rfl ⟨14, .data⟩ (by simp) rfl
            have e1 := h.p4 d4
            obtain ⟨g, e6, hr6⟩ := h.sl d14 h7
            have hot := h.oth h7
            have d8 : dn d 8 := h.l14_8 d14
            have d11 : dn d 11 := h.l14_11 d14
            have hrw := HROWN.out.below hot
            have hown := hrw.o1
            refine wpOp_plain rfl rfl ?_
            refine wp_append_rd (enc := encEnding) (.tmp 116) (.tmp 126) _ rfl (Lb + 1) 55 ii _ 4 48 len_ending one_ending Tryz.underlying23 hii hzi hsi hbi rfl (by decide) v1 _ _ (eval_tmp e1) hown wc.heap.size (.slice (some ⟨g, 0, none⟩) 1 1) [⟨kv, d1, f1, nv⟩] (eval_tmp e6) hr6 (by simp only [maxLen]; show x.endings.length + 1 ≤ _; omega) (by show (x.endings.length + 1) * 48 ≤ _; omega) (by have := hot.size; omega) ?_
            intro v' w' hown' hg hat
            have hFn : v1.ownBlock ≠ some Lb := fun q => by have := (hown.lt _ q).1; omega
            exact ⟨_, rfl, { bel := h.bel.grown hg (by have := hot.size; omega) (fun k hk => by have := (hown.lt k hk).1; omega), siz := (by simpa using h.siz), kp := rk h.kp, k0 := rs h.k0, k5 := rs h.k5, k6 := rs h.k6, k11 := rs h.k11, oth := fun hk => absurd (dn_self hi) hk, sl := fun _ hk => absurd (dn_self hi) hk, res := fun _ => ⟨v', fun _ => ⟨set_same (by have := h.siz; show _ < t.size; omega), (hg.block Lb (by have := hot.size; omega) (fun q => hFn q.symm)).trans ((hot.block Lb hLlt').trans HCN.out)⟩, fun h9 => absurd (h.l18_15 (dn_of hi h9 (by decide))) hnd', hrw.grow1 hfit (by simpa using hown') hg⟩, l15_4 := fun _ => dn_up d4, l15_14 := fun _ => dn_up d14, l15_8 := fun _ => dn_up d8, l15_11 := fun _ => dn_up d11, l14_8 := fun hj => dn_up (h.l14_8 (dn_of hi hj (by decide))), l14_11 := fun hj => dn_up (h.l14_11 (dn_of hi hj (by decide))), l13_8 := fun hj => dn_up (h.l13_8 (dn_of hi hj (by decide))), l13_11 := fun hj => dn_up (h.l13_11 (dn_of hi hj (by decide))), l18_15 := fun hj => dn_up (h.l18_15 (dn_of hi hj (by decide))), p0 := rp hi h.p0, p1 := rp hi h.p1, p2 := rp hi h.p2, p3 := rp hi h.p3, p4 := rp hi h.p4, p5 := rp hi h.p5, p6 := rp hi h.p6, p7 := rp hi h.p7, p8 := rp hi h.p8, p9 := rp hi h.p9, p10 := rp hi h.p10, p11 := rp hi h.p11, p12 := rp hi h.p12, p13 := rp hi h.p13, p16 := rp hi h.p16, p17 := rp hi h.p17 }⟩
          · have hi : 16 < d.size := by omega
            have e0 := h.p0 (hpre _ rfl ⟨0, .data⟩ (by simp) rfl)
            refine wpOp_plain rfl rfl ?_
            go_simp
            exact ⟨_, rfl, { bel := h.bel, siz := (by simpa using h.siz), kp := rk h.kp, k0 := rs h.k0, k5 := rs h.k5, k6 := rs h.k6, k11 := rs h.k11, oth := fun hk => h.oth (fun q => hk (dn_up q)), sl := fun hj hk => by obtain ⟨g, e1, e2⟩ := h.sl (dn_of hi hj (by decide)) (fun q => hk (dn_up q)); exact ⟨g, (set_other (by decide)).trans e1, e2⟩, res := fun hj => by obtain ⟨u, e1, e2, e3⟩ := h.res (dn_of hi hj (by decide)); exact ⟨u, fun hk => ⟨(set_other (by decide)).trans (e1 (fun q => hk (dn_up q))).1, (e1 (fun q => hk (dn_up q))).2⟩, fun h9 => e2 (dn_of hi h9 (by decide)), e3⟩, l15_4 := fun hj => dn_up (h.l15_4 (dn_of hi hj (by decide))), l15_14 := fun hj => dn_up (h.l15_14 (dn_of hi hj (by decide))), l15_8 := fun hj => dn_up (h.l15_8 (dn_of hi hj (by decide))), l15_11 := fun hj => dn_up (h.l15_11 (dn_of hi hj (by decide))), l14_8 := fun hj => dn_up (h.l14_8 (dn_of hi hj (by decide))), l14_11 := fun hj => dn_up (h.l14_11 (dn_of hi hj (by decide))), l13_8 := fun hj => dn_up (h.l13_8 (dn_of hi hj (by decide))), l13_11 := fun hj => dn_up (h.l13_11 (dn_of hi hj (by decide))), l18_15 := fun hj => dn_up (h.l18_15 (dn_of hi hj (by decide))), p0 := rp hi h.p0, p1 := rp hi h.p1, p2 := rp hi h.p2, p3 := rp hi h.p3, p4 := rp hi h.p4, p5 := rp hi h.p5, p6 := rp hi h.p6, p7 := rp hi h.p7, p8 := rp hi h.p8, p9 := rp hi h.p9, p10 := rp hi h.p10, p11 := rp hi h.p11, p12 := rp hi h.p12, p13 := rp hi h.p13, p16 := fun _ => set_same (by have := h.siz; omega), p17 := rp hi h.p17 }⟩
          · have hi : 17 < d.size := by omega
            have e16 := h.p16 (hpre _ rfl ⟨16, .data⟩ (by simp) rfl)
            refine wpOp_plain rfl rfl ?_
            go_simp
            exact ⟨_, rfl, { bel := h.bel, siz := (by simpa using h.siz), kp := rk h.kp, k0 := rs h.k0, k5 := rs h.k5, k6 := rs h.k6, k11 := rs h.k11, oth := fun hk => h.oth (fun q => hk (dn_up q)), sl := fun hj hk => by obtain ⟨g, e1, e2⟩ := h.sl (dn_of hi hj (by decide)) (fun q => hk (dn_up q)); exact ⟨g, (set_other (by decide)).trans e1, e2⟩, res := fun hj => by obtain ⟨u, e1, e2, e3⟩ := h.res (dn_of hi hj (by decide)); exact ⟨u, fun hk => ⟨(set_other (by decide)).trans (e1 (fun q => hk (dn_up q))).1, (e1 (fun q => hk (dn_up q))).2⟩, fun h9 => e2 (dn_of hi h9 (by decide)), e3⟩, l15_4 := fun hj => dn_up (h.l15_4 (dn_of hi hj (by decide))), l15_14 := fun hj => dn_up (h.l15_14 (dn_of hi hj (by decide))), l15_8 := fun hj => dn_up (h.l15_8 (dn_of hi hj (by decide))), l15_11 := fun hj => dn_up (h.l15_11 (dn_of hi hj (by decide))), l14_8 := fun hj => dn_up (h.l14_8 (dn_of hi hj (by decide))), l14_11 := fun hj => dn_up (h.l14_11 (dn_of hi hj (by decide))), l13_8 := fun hj => dn_up (h.l13_8 (dn_of hi hj (by decide))), l13_11 := fun hj => dn_up (h.l13_11 (dn_of hi hj (by decide))), l18_15 := fun hj => dn_up (h.l18_15 (dn_of hi hj (by decide))), p0 := rp hi h.p0, p1 := rp hi h.p1, p2 := rp hi h.p2, p3 := rp hi h.p3, p4 := rp hi h.p4, p5 := rp hi h.p5, p6 := rp hi h.p6, p7 := rp hi h.p7, p8 := rp hi h.p8, p9 := rp hi h.p9, p10 := rp hi h.p10, p11 := rp hi h.p11, p12 := rp hi h.p12, p13 := rp hi h.p13, p16 := rp hi h.p16, p17 := fun _ => set_same (by have := h.siz; omega) }⟩
          · have hi : 18 < d.size := by omega
            have hnd' := not_dn hi hnd
            have d17 : dn d 17 := hpre _ rfl ⟨17, .data⟩ (by simp) rfl
            have d15 : dn d 15 := hpre _ rfl ⟨15, .data⟩ (by simp) rfl
            have e8 := h.p17 d17
            obtain ⟨u, q1, q2, q3⟩ := h.res d15
            obtain ⟨q4, q5⟩ := q1 hnd'
            obtain ⟨s0, s1, s2, z0, z1, z2⟩ := lex_cells6 q5
            obtain ⟨Au, cu, rfl⟩ := own_form q3.o1
            refine wpOp_plain rfl rfl ?_
            go_simp
            exact ⟨_, rfl, { bel := h.bel.setCell (by exact Nat.le_refl _) _, siz := h.siz, kp := h.kp, k0 := h.k0, k5 := h.k5, k6 := h.k6, k11 := h.k11, oth := fun hk => absurd (dn_up d15) hk, sl := fun _ hk => absurd (dn_up d15) hk, res := fun _ => ⟨_, fun hk => absurd (dn_self hi) hk, fun _ => by simp [World.setCell, Array.getElem?_modify, q5], q3.store (by exact Nat.lt_succ_self _) _⟩, l15_4 := fun hj => dn_up (h.l15_4 (dn_of hi hj (by decide))), l15_14 := fun hj => dn_up (h.l15_14 (dn_of hi hj (by decide))), l15_8 := fun hj => dn_up (h.l15_8 (dn_of hi hj (by decide))), l15_11 := fun hj => dn_up (h.l15_11 (dn_of hi hj (by decide))), l14_8 := fun hj => dn_up (h.l14_8 (dn_of hi hj (by decide))), l14_11 := fun hj => dn_up (h.l14_11 (dn_of hi hj (by decide))), l13_8 := fun hj => dn_up (h.l13_8 (dn_of hi hj (by decide))), l13_11 := fun hj => dn_up (h.l13_11 (dn_of hi hj (by decide))), l18_15 := fun _ => dn_up d15, p0 := rn hi h.p0, p1 := rn hi h.p1, p2 := rn hi h.p2, p3 := rn hi h.p3, p4 := rn hi h.p4, p5 := rn hi h.p5, p6 := rn hi h.p6, p7 := rn hi h.p7, p8 := rn hi h.p8, p9 := rn hi h.p9, p10 := rn hi h.p10, p11 := rn hi h.p11, p12 := rn hi h.p12, p13 := rn hi h.p13, p16 := rn hi h.p16, p17 := rn hi h.p17 }⟩
        case gende =>
          intro d a wc hd hI hall
          obtain ⟨t, rfl, h⟩ := hI
          have hdn : ∀ j, j < 19 → dn d j := fun j hj => dn_all hd hall hj
          have hd : ∀ j, (_ : j < 19 := by decide) → dn d j := fun j hj => hdn j hj
          obtain ⟨t126, x126⟩ : ∃ v, t[126]? = some v := ⟨_, Array.getElem?_eq_getElem (by have := h.siz; omega)⟩
          obtain ⟨t127, x127⟩ : ∃ v, t[127]? = some v := ⟨_, Array.getElem?_eq_getElem (by have := h.siz; omega)⟩
          have hfe := frame_eq [(112, _), (113, _), (114, _), (115, _), (116, _), (117, _), (118, _), (119, _), (120, _), (121, _), (122, _), (123, _), (124, _), (125, _), (126, _), (127, _), (128, _), (129, _)] (h.siz.trans rfl) h.kp rfl ⟨h.p0 (hd 0), h.p1 (hd 1), h.p2 (hd 2), h.p3 (hd 3), h.p4 (hd 4), h.p5 (hd 5), h.p6 (hd 6), h.p7 (hd 7), h.p8 (hd 8), h.p9 (hd 9), h.p10 (hd 10), h.p11 (hd 11), h.p12 (hd 12), h.p13 (hd 13), x126, x127, h.p16 (hd 16), h.p17 (hd 17), trivial⟩
          simp only [List.foldl_cons, List.foldl_nil, List.setIfInBounds_toArray, List.set_cons_succ, List.set_cons_zero] at hfe
          have hbc := h.bel
          subst hfe
          have hres := h.res (hd 15)
          have h9d := hd 18
          clear h hdn hall
          have hbc' := hbc
          obtain ⟨u, -, hfin, hown9⟩ := hres
          have hfin := hfin h9d
          have HBF := Lib.hid ((HB.out.mono (by omega : Lb ≤ w.heap.size)).trans hbc')
          have HFI := Lib.hid hfin
          have HOW := Lib.hid hown9
          clear hbc hbc' hfin hown9 h9d
          go_wp2_with fail
          go_ret
          exact retLine_some (b := kb) HLQ.out HBF.out ⟨_, _, _, HFI.out, HOW.out⟩
      · have HN : Hid (Lx.lineV x ws = none) := Lib.hid (by
          rw [HLV.out, if_neg, if_neg]
          · rintro ⟨q1, q2⟩; exact hv ⟨by rw [Go.Lib.toList_data]; exact q1, by omega⟩
          · rintro ⟨q1, q2, q3⟩; exact hw ⟨by rw [Go.Lib.toList_data]; exact q1, by omega, by omega⟩)
        have HW := Lib.hid hw
        have HV := Lib.hid hv
        obtain ⟨A1, c1, rfl⟩ := own_form HROWS.out.o1
        obtain ⟨A2, c2, rfl⟩ := own_form HROWS.out.o2
        clear hw hv
        go_wp2_with fail
        all_goals first
          | (exfalso; exact HW.out ⟨by assumption, by first | omega | (rw [‹x.endings = []›]; rfl) | exact beq_iff_eq.1 (by assumption), by first | omega | (rw [‹x.clitics = []›]; rfl) | exact beq_iff_eq.1 (by assumption)⟩)
          | (exfalso; exact HV.out ⟨by assumption, by first | omega | (rw [‹x.clitics = []›]; rfl) | exact beq_iff_eq.1 (by assumption)⟩)
          | (go_ret; exact retLine_none HN.out HB.out (by omega))
  · by_cases h4 : l.length = 4
    · obtain ⟨a1, b1, d1, g1, hl⟩ := list4 h4
      obtain rfl : s0 = a1 := by have := HS0.out; rw [hl] at this; simpa using this.symm
      obtain rfl : m = 3 := by have := HM.out; omega
      obtain rfl : s = g1 := by have := HS.out; rw [hl] at this; simpa using this.symm
      have HK1 := Lib.hid (HC.out 1 b1 (by rw [hl]; rfl))
      have HK2 := Lib.hid (HC.out 2 d1 (by rw [hl]; rfl))
      have HZ1 := Lib.hid (HSZ.out b1 (by rw [hl]; simp))
      have HZ2 := Lib.hid (HSZ.out d1 (by rw [hl]; simp))
      have HLV : Hid (Lx.lineV x ws = if s0.data.toList = [99, 108, 105, 116, 105, 99] ∧ Lx.numB s.data.toList 4 = true then some ⟨x.entries, x.endings, x.clitics ++ [⟨Lx.bs b1.data.toList, Lx.bs d1.data.toList, Lx.numV s.data.toList 4⟩]⟩ else none) := Lib.hid (by
        have hf := HF.out
        rw [HWS.out]
        rw [hl] at hf ⊢
        unfold Lx.lineV
        rw [hf]
        rfl)
      have h4I : (l.length : Int) = 4 := by omega
      have h5I : ¬ (l.length : Int) = 5 := by omega
      clear hl h4 h5
      by_cases hw : s0.toList = [99, 108, 105, 116, 105, 99]
      · go_wp2_with fail
        have HCN := HCELL
        have HROWN := HROWS
        obtain ⟨ii, hii, hzi, hsi, hbi⟩ := info_parts info_Clitic
        have hLW : Lb ≤ w2.heap.size := by omega
        have hLlt' : Lb < w2.heap.size := by omega
        have hbW : b < w2.heap.size := hb
        have hfit : Lx.Clitic.fits ⟨b1, d1, nv⟩ := ⟨by have := HZ1.out; simp only [maxLen]; omega, by have := HZ2.out; simp only [maxLen]; omega⟩
        have HLQ : Hid (Lx.lineV x ws = if true = true then some ⟨x.entries, x.endings, x.clitics ++ [⟨b1, d1, nv⟩]⟩ else none) := Lib.hid (by
          have hw' := hw
          rw [Go.Lib.toList_data] at hw'
          rw [HLV.out, if_pos ⟨hw', HNM.out⟩, HNV.out]
          rfl)
        clear hw hL0 hL1 hL2 hc0 hcm h5I hlc hc
        refine wp_region_inv2T (fun T0 => LcI T0 w2 Lb v0 v1 v2 b off l.length c b1 d1 nv x) (by kernel_rfl) (by kernel_rfl) ?g0c ?gstepc ?gendc
        case g0c =>
          have hno : ∀ j, ¬ dn (Array.replicate 18 false) j := by
            intro j; unfold dn; by_cases hj : j < 18 <;> simp [Array.getD, hj]
          have na : ∀ {j : Nat} {Z : Prop}, dn (Array.replicate 18 false) j → Z := fun hj => absurd hj (hno _)
          exact ⟨_, rfl, { bel := (Below.refl _ _).drew, siz := rfl, kp := fun _ _ => rfl, k0 := rfl, k5 := rfl, k6 := rfl, p0 := na, p1 := na, p2 := na, p3 := na, p4 := na, p5 := na, p6 := na, p7 := na, p8 := na, p9 := na, p10 := na, p11 := na, p12 := na, p15 := na, p16 := na, oth := fun _ => (Below.refl _ _).drew, sl := fun hj => absurd hj (hno _), res := fun hj => absurd hj (hno _), l14_4 := fun hj => absurd hj (hno _), l14_13 := fun hj => absurd hj (hno _), l14_7 := fun hj => absurd hj (hno _), l14_10 := fun hj => absurd hj (hno _), l13_7 := fun hj => absurd hj (hno _), l13_10 := fun hj => absurd hj (hno _), l12_7 := fun hj => absurd hj (hno _), l12_10 := fun hj => absurd hj (hno _), l17_14 := fun hj => absurd hj (hno _) }⟩
        case gstepc =>
          intro T0 d a wc i hd hI hi
          obtain ⟨hlt, hnd, hpre⟩ := mem_ready hi
          have hd' : d.size = 18 := hd
          have hin : i < 18 := hlt
          clear hi hd hlt
          obtain ⟨t, rfl, h⟩ := hI
          have hcs : i = 0 ∨ i = 1 ∨ i = 2 ∨ i = 3 ∨ i = 4 ∨ i = 5 ∨ i = 6 ∨ i = 7 ∨ i = 8 ∨ i = 9 ∨ i = 10 ∨ i = 11 ∨ i = 12 ∨ i = 13 ∨ i = 14 ∨ i = 15 ∨ i = 16 ∨ i = 17 := by omega
          rcases hcs with rfl | rfl | rfl | rfl | rfl | rfl | rfl | rfl | rfl | rfl | rfl | rfl | rfl | rfl | rfl | rfl | rfl | rfl
          · have hi : 0 < d.size := by omega
            have q0 := h.k0
            refine wpOp_plain rfl rfl ?_
            go_simp
            exact ⟨_, rfl, { bel := h.bel, siz := (by simpa using h.siz), kp := rk h.kp, k0 := rs h.k0, k5 := rs h.k5, k6 := rs h.k6, oth := fun hk => h.oth (fun q => hk (dn_up q)), sl := fun hj hk => by obtain ⟨g, e1, e2⟩ := h.sl (dn_of hi hj (by decide)) (fun q => hk (dn_up q)); exact ⟨g, (set_other (by decide)).trans e1, e2⟩, res := fun hj => by obtain ⟨u, e1, e2, e3⟩ := h.res (dn_of hi hj (by decide)); exact ⟨u, fun hk => ⟨(set_other (by decide)).trans (e1 (fun q => hk (dn_up q))).1, (e1 (fun q => hk (dn_up q))).2⟩, fun h9 => e2 (dn_of hi h9 (by decide)), e3⟩, l14_4 := fun hj => dn_up (h.l14_4 (dn_of hi hj (by decide))), l14_13 := fun hj => dn_up (h.l14_13 (dn_of hi hj (by decide))), l14_7 := fun hj => dn_up (h.l14_7 (dn_of hi hj (by decide))), l14_10 := fun hj => dn_up (h.l14_10 (dn_of hi hj (by decide))), l13_7 := fun hj => dn_up (h.l13_7 (dn_of hi hj (by decide))), l13_10 := fun hj => dn_up (h.l13_10 (dn_of hi hj (by decide))), l12_7 := fun hj => dn_up (h.l12_7 (dn_of hi hj (by decide))), l12_10 := fun hj => dn_up (h.l12_10 (dn_of hi hj (by decide))), l17_14 := fun hj => dn_up (h.l17_14 (dn_of hi hj (by decide))), p0 := fun _ => set_same (by have := h.siz; omega), p1 := rp hi h.p1, p2 := rp hi h.p2, p3 := rp hi h.p3, p4 := rp hi h.p4, p5 := rp hi h.p5, p6 := rp hi h.p6, p7 := rp hi h.p7, p8 := rp hi h.p8, p9 := rp hi h.p9, p10 := rp hi h.p10, p11 := rp hi h.p11, p12 := rp hi h.p12, p15 := rp hi h.p15, p16 := rp hi h.p16 }⟩
          · have hi : 1 < d.size := by omega
            have q0 := h.k0
            refine wpOp_plain rfl rfl ?_
            go_simp
            exact ⟨_, rfl, { bel := h.bel, siz := (by simpa using h.siz), kp := rk h.kp, k0 := rs h.k0, k5 := rs h.k5, k6 := rs h.k6, oth := fun hk => h.oth (fun q => hk (dn_up q)), sl := fun hj hk => by obtain ⟨g, e1, e2⟩ := h.sl (dn_of hi hj (by decide)) (fun q => hk (dn_up q)); exact ⟨g, (set_other (by decide)).trans e1, e2⟩, res := fun hj => by obtain ⟨u, e1, e2, e3⟩ := h.res (dn_of hi hj (by decide)); exact ⟨u, fun hk => ⟨(set_other (by decide)).trans (e1 (fun q => hk (dn_up q))).1, (e1 (fun q => hk (dn_up q))).2⟩, fun h9 => e2 (dn_of hi h9 (by decide)), e3⟩, l14_4 := fun hj => dn_up (h.l14_4 (dn_of hi hj (by decide))), l14_13 := fun hj => dn_up (h.l14_13 (dn_of hi hj (by decide))), l14_7 := fun hj => dn_up (h.l14_7 (dn_of hi hj (by decide))), l14_10 := fun hj => dn_up (h.l14_10 (dn_of hi hj (by decide))), l13_7 := fun hj => dn_up (h.l13_7 (dn_of hi hj (by decide))), l13_10 := fun hj => dn_up (h.l13_10 (dn_of hi hj (by decide))), l12_7 := fun hj => dn_up (h.l12_7 (dn_of hi hj (by decide))), l12_10 := fun hj => dn_up (h.l12_10 (dn_of hi hj (by decide))), l17_14 := fun hj => dn_up (h.l17_14 (dn_of hi hj (by decide))), p0 := rp hi h.p0, p1 := fun _ => set_same (by have := h.siz; omega), p2 := rp hi h.p2, p3 := rp hi h.p3, p4 := rp hi h.p4, p5 := rp hi h.p5, p6 := rp hi h.p6, p7 := rp hi h.p7, p8 := rp hi h.p8, p9 := rp hi h.p9, p10 := rp hi h.p10, p11 := rp hi h.p11, p12 := rp hi h.p12, p15 := rp hi h.p15, p16 := rp hi h.p16 }⟩
          · have hi : 2 < d.size := by omega
            have e1 := h.p1 (hpre _ rfl ⟨1, .data⟩ (by simp) rfl)
            refine wpOp_plain rfl rfl ?_
            go_simp
            exact ⟨_, rfl, { bel := h.bel, siz := (by simpa using h.siz), kp := rk h.kp, k0 := rs h.k0, k5 := rs h.k5, k6 := rs h.k6, oth := fun hk => h.oth (fun q => hk (dn_up q)), sl := fun hj hk => by obtain ⟨g, e1, e2⟩ := h.sl (dn_of hi hj (by decide)) (fun q => hk (dn_up q)); exact ⟨g, (set_other (by decide)).trans e1, e2⟩, res := fun hj => by obtain ⟨u, e1, e2, e3⟩ := h.res (dn_of hi hj (by decide)); exact ⟨u, fun hk => ⟨(set_other (by decide)).trans (e1 (fun q => hk (dn_up q))).1, (e1 (fun q => hk (dn_up q))).2⟩, fun h9 => e2 (dn_of hi h9 (by decide)), e3⟩, l14_4 := fun hj => dn_up (h.l14_4 (dn_of hi hj (by decide))), l14_13 := fun hj => dn_up (h.l14_13 (dn_of hi hj (by decide))), l14_7 := fun hj => dn_up (h.l14_7 (dn_of hi hj (by decide))), l14_10 := fun hj => dn_up (h.l14_10 (dn_of hi hj (by decide))), l13_7 := fun hj => dn_up (h.l13_7 (dn_of hi hj (by decide))), l13_10 := fun hj => dn_up (h.l13_10 (dn_of hi hj (by decide))), l12_7 := fun hj => dn_up (h.l12_7 (dn_of hi hj (by decide))), l12_10 := fun hj => dn_up (h.l12_10 (dn_of hi hj (by decide))), l17_14 := fun hj => dn_up (h.l17_14 (dn_of hi hj (by decide))), p0 := rp hi h.p0, p1 := rp hi h.p1, p2 := fun _ => set_same (by have := h.siz; omega), p3 := rp hi h.p3, p4 := rp hi h.p4, p5 := rp hi h.p5, p6 := rp hi h.p6, p7 := rp hi h.p7, p8 := rp hi h.p8, p9 := rp hi h.p9, p10 := rp hi h.p10, p11 := rp hi h.p11, p12 := rp hi h.p12, p15 := rp hi h.p15, p16 := rp hi h.p16 }⟩
          · have hi : 3 < d.size := by omega
            have e2 := h.p2 (hpre _ rfl ⟨2, .data⟩ (by simp) rfl)
            refine wpOp_plain rfl rfl ?_
            go_simp
            exact ⟨_, rfl, { bel := h.bel, siz := (by simpa using h.siz), kp := rk h.kp, k0 := rs h.k0, k5 := rs h.k5, k6 := rs h.k6, oth := fun hk => h.oth (fun q => hk (dn_up q)), sl := fun hj hk => by obtain ⟨g, e1, e2⟩ := h.sl (dn_of hi hj (by decide)) (fun q => hk (dn_up q)); exact ⟨g, (set_other (by decide)).trans e1, e2⟩, res := fun hj => by obtain ⟨u, e1, e2, e3⟩ := h.res (dn_of hi hj (by decide)); exact ⟨u, fun hk => ⟨(set_other (by decide)).trans (e1 (fun q => hk (dn_up q))).1, (e1 (fun q => hk (dn_up q))).2⟩, fun h9 => e2 (dn_of hi h9 (by decide)), e3⟩, l14_4 := fun hj => dn_up (h.l14_4 (dn_of hi hj (by decide))), l14_13 := fun hj => dn_up (h.l14_13 (dn_of hi hj (by decide))), l14_7 := fun hj => dn_up (h.l14_7 (dn_of hi hj (by decide))), l14_10 := fun hj => dn_up (h.l14_10 (dn_of hi hj (by decide))), l13_7 := fun hj => dn_up (h.l13_7 (dn_of hi hj (by decide))), l13_10 := fun hj => dn_up (h.l13_10 (dn_of hi hj (by decide))), l12_7 := fun hj => dn_up (h.l12_7 (dn_of hi hj (by decide))), l12_10 := fun hj => dn_up (h.l12_10 (dn_of hi hj (by decide))), l17_14 := fun hj => dn_up (h.l17_14 (dn_of hi hj (by decide))), p0 := rp hi h.p0, p1 := rp hi h.p1, p2 := rp hi h.p2, p3 := fun _ => set_same (by have := h.siz; omega), p4 := rp hi h.p4, p5 := rp hi h.p5, p6 := rp hi h.p6, p7 := rp hi h.p7, p8 := rp hi h.p8, p9 := rp hi h.p9, p10 := rp hi h.p10, p11 := rp hi h.p11, p12 := rp hi h.p12, p15 := rp hi h.p15, p16 := rp hi h.p16 }⟩
          · have hi : 4 < d.size := by omega
            have e3 := h.p3 (hpre _ rfl ⟨3, .data⟩ (by simp) rfl)
            have hnd' := not_dn hi hnd
            have h7 : ¬ dn d 14 := fun q => hnd' (h.l14_4 q)
            obtain ⟨s0, s1, s2, -, -, -⟩ := lex_cells6 (((h.oth h7).block Lb hLlt').trans HCN.out)
            refine wpOp_plain rfl rfl ?_
            go_simp
            exact ⟨_, rfl, { bel := h.bel, siz := (by simpa using h.siz), kp := rk h.kp, k0 := rs h.k0, k5 := rs h.k5, k6 := rs h.k6, oth := fun hk => h.oth (fun q => hk (dn_up q)), sl := fun hj hk => by obtain ⟨g, e1, e2⟩ := h.sl (dn_of hi hj (by decide)) (fun q => hk (dn_up q)); exact ⟨g, (set_other (by decide)).trans e1, e2⟩, res := fun hj => by obtain ⟨u, e1, e2, e3⟩ := h.res (dn_of hi hj (by decide)); exact ⟨u, fun hk => ⟨(set_other (by decide)).trans (e1 (fun q => hk (dn_up q))).1, (e1 (fun q => hk (dn_up q))).2⟩, fun h9 => e2 (dn_of hi h9 (by decide)), e3⟩, l14_4 := fun hj => dn_up (h.l14_4 (dn_of hi hj (by decide))), l14_13 := fun hj => dn_up (h.l14_13 (dn_of hi hj (by decide))), l14_7 := fun hj => dn_up (h.l14_7 (dn_of hi hj (by decide))), l14_10 := fun hj => dn_up (h.l14_10 (dn_of hi hj (by decide))), l13_7 := fun hj => dn_up (h.l13_7 (dn_of hi hj (by decide))), l13_10 := fun hj => dn_up (h.l13_10 (dn_of hi hj (by decide))), l12_7 := fun hj => dn_up (h.l12_7 (dn_of hi hj (by decide))), l12_10 := fun hj => dn_up (h.l12_10 (dn_of hi hj (by decide))), l17_14 := fun hj => dn_up (h.l17_14 (dn_of hi hj (by decide))), p0 := rp hi h.p0, p1 := rp hi h.p1, p2 := rp hi h.p2, p3 := rp hi h.p3, p4 := fun _ => set_same (by have := h.siz; omega), p5 := rp hi h.p5, p6 := rp hi h.p6, p7 := rp hi h.p7, p8 := rp hi h.p8, p9 := rp hi h.p9, p10 := rp hi h.p10, p11 := rp hi h.p11, p12 := rp hi h.p12, p15 := rp hi h.p15, p16 := rp hi h.p16 }⟩
          · have hi : 5 < d.size := by omega
            have q5 := h.k5
            refine wpOp_plain rfl rfl ?_
            go_simp
            exact ⟨_, rfl, { bel := h.bel, siz := (by simpa using h.siz), kp := rk h.kp, k0 := rs h.k0, k5 := rs h.k5, k6 := rs h.k6, oth := fun hk => h.oth (fun q => hk (dn_up q)), sl := fun hj hk => by obtain ⟨g, e1, e2⟩ := h.sl (dn_of hi hj (by decide)) (fun q => hk (dn_up q)); exact ⟨g, (set_other (by decide)).trans e1, e2⟩, res := fun hj => by obtain ⟨u, e1, e2, e3⟩ := h.res (dn_of hi hj (by decide)); exact ⟨u, fun hk => ⟨(set_other (by decide)).trans (e1 (fun q => hk (dn_up q))).1, (e1 (fun q => hk (dn_up q))).2⟩, fun h9 => e2 (dn_of hi h9 (by decide)), e3⟩, l14_4 := fun hj => dn_up (h.l14_4 (dn_of hi hj (by decide))), l14_13 := fun hj => dn_up (h.l14_13 (dn_of hi hj (by decide))), l14_7 := fun hj => dn_up (h.l14_7 (dn_of hi hj (by decide))), l14_10 := fun hj => dn_up (h.l14_10 (dn_of hi hj (by decide))), l13_7 := fun hj => dn_up (h.l13_7 (dn_of hi hj (by decide))), l13_10 := fun hj => dn_up (h.l13_10 (dn_of hi hj (by decide))), l12_7 := fun hj => dn_up (h.l12_7 (dn_of hi hj (by decide))), l12_10 := fun hj => dn_up (h.l12_10 (dn_of hi hj (by decide))), l17_14 := fun hj => dn_up (h.l17_14 (dn_of hi hj (by decide))), p0 := rp hi h.p0, p1 := rp hi h.p1, p2 := rp hi h.p2, p3 := rp hi h.p3, p4 := rp hi h.p4, p5 := fun _ => set_same (by have := h.siz; omega), p6 := rp hi h.p6, p7 := rp hi h.p7, p8 := rp hi h.p8, p9 := rp hi h.p9, p10 := rp hi h.p10, p11 := rp hi h.p11, p12 := rp hi h.p12, p15 := rp hi h.p15, p16 := rp hi h.p16 }⟩
          · have hi : 6 < d.size := by omega
            have e5 := h.p5 (hpre _ rfl ⟨5, .data⟩ (by simp) rfl)
            refine wpOp_plain rfl rfl ?_
            go_simp
            exact ⟨_, rfl, { bel := h.bel, siz := (by simpa using h.siz), kp := rk h.kp, k0 := rs h.k0, k5 := rs h.k5, k6 := rs h.k6, oth := fun hk => h.oth (fun q => hk (dn_up q)), sl := fun hj hk => by obtain ⟨g, e1, e2⟩ := h.sl (dn_of hi hj (by decide)) (fun q => hk (dn_up q)); exact ⟨g, (set_other (by decide)).trans e1, e2⟩, res := fun hj => by obtain ⟨u, e1, e2, e3⟩ := h.res (dn_of hi hj (by decide)); exact ⟨u, fun hk => ⟨(set_other (by decide)).trans (e1 (fun q => hk (dn_up q))).1, (e1 (fun q => hk (dn_up q))).2⟩, fun h9 => e2 (dn_of hi h9 (by decide)), e3⟩, l14_4 := fun hj => dn_up (h.l14_4 (dn_of hi hj (by decide))), l14_13 := fun hj => dn_up (h.l14_13 (dn_of hi hj (by decide))), l14_7 := fun hj => dn_up (h.l14_7 (dn_of hi hj (by decide))), l14_10 := fun hj => dn_up (h.l14_10 (dn_of hi hj (by decide))), l13_7 := fun hj => dn_up (h.l13_7 (dn_of hi hj (by decide))), l13_10 := fun hj => dn_up (h.l13_10 (dn_of hi hj (by decide))), l12_7 := fun hj => dn_up (h.l12_7 (dn_of hi hj (by decide))), l12_10 := fun hj => dn_up (h.l12_10 (dn_of hi hj (by decide))), l17_14 := fun hj => dn_up (h.l17_14 (dn_of hi hj (by decide))), p0 := rp hi h.p0, p1 := rp hi h.p1, p2 := rp hi h.p2, p3 := rp hi h.p3, p4 := rp hi h.p4, p5 := rp hi h.p5, p6 := fun _ => set_same (by have := h.siz; omega), p7 := rp hi h.p7, p8 := rp hi h.p8, p9 := rp hi h.p9, p10 := rp hi h.p10, p11 := rp hi h.p11, p12 := rp hi h.p12, p15 := rp hi h.p15, p16 := rp hi h.p16 }⟩
          · have hi : 7 < d.size := by omega
            have e6 := h.p6 (hpre _ rfl ⟨6, .data⟩ (by simp) rfl)
            have hnd' := not_dn hi hnd
            have h7 : ¬ dn d 14 := fun q => hnd' (h.l14_7 q)
            have m7 := ((h.oth h7).cell (p := ⟨b, off + 1, none⟩) hbW).trans HK1.out
            refine wpOp_plain rfl rfl ?_
            go_simp
            exact ⟨_, rfl, { bel := h.bel, siz := (by simpa using h.siz), kp := rk h.kp, k0 := rs h.k0, k5 := rs h.k5, k6 := rs h.k6, oth := fun hk => h.oth (fun q => hk (dn_up q)), sl := fun hj hk => by obtain ⟨g, e1, e2⟩ := h.sl (dn_of hi hj (by decide)) (fun q => hk (dn_up q)); exact ⟨g, (set_other (by decide)).trans e1, e2⟩, res := fun hj => by obtain ⟨u, e1, e2, e3⟩ := h.res (dn_of hi hj (by decide)); exact ⟨u, fun hk => ⟨(set_other (by decide)).trans (e1 (fun q => hk (dn_up q))).1, (e1 (fun q => hk (dn_up q))).2⟩, fun h9 => e2 (dn_of hi h9 (by decide)), e3⟩, l14_4 := fun hj => dn_up (h.l14_4 (dn_of hi hj (by decide))), l14_13 := fun hj => dn_up (h.l14_13 (dn_of hi hj (by decide))), l14_7 := fun hj => dn_up (h.l14_7 (dn_of hi hj (by decide))), l14_10 := fun hj => dn_up (h.l14_10 (dn_of hi hj (by decide))), l13_7 := fun hj => dn_up (h.l13_7 (dn_of hi hj (by decide))), l13_10 := fun hj => dn_up (h.l13_10 (dn_of hi hj (by decide))), l12_7 := fun hj => dn_up (h.l12_7 (dn_of hi hj (by decide))), l12_10 := fun hj => dn_up (h.l12_10 (dn_of hi hj (by decide))), l17_14 := fun hj => dn_up (h.l17_14 (dn_of hi hj (by decide))), p0 := rp hi h.p0, p1 := rp hi h.p1, p2 := rp hi h.p2, p3 := rp hi h.p3, p4 := rp hi h.p4, p5 := rp hi h.p5, p6 := rp hi h.p6, p7 := fun _ => set_same (by have := h.siz; omega), p8 := rp hi h.p8, p9 := rp hi h.p9, p10 := rp hi h.p10, p11 := rp hi h.p11, p12 := rp hi h.p12, p15 := rp hi h.p15, p16 := rp hi h.p16 }⟩
          · have hi : 8 < d.size := by omega
            have q5 := h.k5
            refine wpOp_plain rfl rfl ?_
            go_simp
            exact ⟨_, rfl, { bel := h.bel, siz := (by simpa using h.siz), kp := rk h.kp, k0 := rs h.k0, k5 := rs h.k5, k6 := rs h.k6, oth := fun hk => h.oth (fun q => hk (dn_up q)), sl := fun hj hk => by obtain ⟨g, e1, e2⟩ := h.sl (dn_of hi hj (by decide)) (fun q => hk (dn_up q)); exact ⟨g, (set_other (by decide)).trans e1, e2⟩, res := fun hj => by obtain ⟨u, e1, e2, e3⟩ := h.res (dn_of hi hj (by decide)); exact ⟨u, fun hk => ⟨(set_other (by decide)).trans (e1 (fun q => hk (dn_up q))).1, (e1 (fun q => hk (dn_up q))).2⟩, fun h9 => e2 (dn_of hi h9 (by decide)), e3⟩, l14_4 := fun hj => dn_up (h.l14_4 (dn_of hi hj (by decide))), l14_13 := fun hj => dn_up (h.l14_13 (dn_of hi hj (by decide))), l14_7 := fun hj => dn_up (h.l14_7 (dn_of hi hj (by decide))), l14_10 := fun hj => dn_up (h.l14_10 (dn_of hi hj (by decide))), l13_7 := fun hj => dn_up (h.l13_7 (dn_of hi hj (by decide))), l13_10 := fun hj => dn_up (h.l13_10 (dn_of hi hj (by decide))), l12_7 := fun hj => dn_up (h.l12_7 (dn_of hi hj (by decide))), l12_10 := fun hj => dn_up (h.l12_10 (dn_of hi hj (by decide))), l17_14 := fun hj => dn_up (h.l17_14 (dn_of hi hj (by decide))), p0 := rp hi h.p0, p1 := rp hi h.p1, p2 := rp hi h.p2, p3 := rp hi h.p3, p4 := rp hi h.p4, p5 := rp hi h.p5, p6 := rp hi h.p6, p7 := rp hi h.p7, p8 := fun _ => set_same (by have := h.siz; omega), p9 := rp hi h.p9, p10 := rp hi h.p10, p11 := rp hi h.p11, p12 := rp hi h.p12, p15 := rp hi h.p15, p16 := rp hi h.p16 }⟩
          · have hi : 9 < d.size := by omega
            have e8 := h.p8 (hpre _ rfl ⟨8, .data⟩ (by simp) rfl)
            refine wpOp_plain rfl rfl ?_
            go_simp
            exact ⟨_, rfl, { bel := h.bel, siz := (by simpa using h.siz), kp := rk h.kp, k0 := rs h.k0, k5 := rs h.k5, k6 := rs h.k6, oth := fun hk => h.oth (fun q => hk (dn_up q)), sl := fun hj hk => by obtain ⟨g, e1, e2⟩ := h.sl (dn_of hi hj (by decide)) (fun q => hk (dn_up q)); exact ⟨g, (set_other (by decide)).trans e1, e2⟩, res := fun hj => by obtain ⟨u, e1, e2, e3⟩ := h.res (dn_of hi hj (by decide)); exact ⟨u, fun hk => ⟨(set_other (by decide)).trans (e1 (fun q => hk (dn_up q))).1, (e1 (fun q => hk (dn_up q))).2⟩, fun h9 => e2 (dn_of hi h9 (by decide)), e3⟩, l14_4 := fun hj => dn_up (h.l14_4 (dn_of hi hj (by decide))), l14_13 := fun hj => dn_up (h.l14_13 (dn_of hi hj (by decide))), l14_7 := fun hj => dn_up (h.l14_7 (dn_of hi hj (by decide))), l14_10 := fun hj => dn_up (h.l14_10 (dn_of hi hj (by decide))), l13_7 := fun hj => dn_up (h.l13_7 (dn_of hi hj (by decide))), l13_10 := fun hj => dn_up (h.l13_10 (dn_of hi hj (by decide))), l12_7 := fun hj => dn_up (h.l12_7 (dn_of hi hj (by decide))), l12_10 := fun hj => dn_up (h.l12_10 (dn_of hi hj (by decide))), l17_14 := fun hj => dn_up (h.l17_14 (dn_of hi hj (by decide))), p0 := rp hi h.p0, p1 := rp hi h.p1, p2 := rp hi h.p2, p3 := rp hi h.p3, p4 := rp hi h.p4, p5 := rp hi h.p5, p6 := rp hi h.p6, p7 := rp hi h.p7, p8 := rp hi h.p8, p9 := fun _ => set_same (by have := h.siz; omega), p10 := rp hi h.p10, p11 := rp hi h.p11, p12 := rp hi h.p12, p15 := rp hi h.p15, p16 := rp hi h.p16 }⟩
          · have hi : 10 < d.size := by omega
            have e9 := h.p9 (hpre _ rfl ⟨9, .data⟩ (by simp) rfl)
            have hnd' := not_dn hi hnd
            have h7 : ¬ dn d 14 := fun q => hnd' (h.l14_10 q)
            have m10 := ((h.oth h7).cell (p := ⟨b, off + 2, none⟩) hbW).trans HK2.out
            refine wpOp_plain rfl rfl ?_
            go_simp
            exact ⟨_, rfl, { bel := h.bel, siz := (by simpa using h.siz), kp := rk h.kp, k0 := rs h.k0, k5 := rs h.k5, k6 := rs h.k6, oth := fun hk => h.oth (fun q => hk (dn_up q)), sl := fun hj hk => by obtain ⟨g, e1, e2⟩ := h.sl (dn_of hi hj (by decide)) (fun q => hk (dn_up q)); exact ⟨g, (set_other (by decide)).trans e1, e2⟩, res := fun hj => by obtain ⟨u, e1, e2, e3⟩ := h.res (dn_of hi hj (by decide)); exact ⟨u, fun hk => ⟨(set_other (by decide)).trans (e1 (fun q => hk (dn_up q))).1, (e1 (fun q => hk (dn_up q))).2⟩, fun h9 => e2 (dn_of hi h9 (by decide)), e3⟩, l14_4 := fun hj => dn_up (h.l14_4 (dn_of hi hj (by decide))), l14_13 := fun hj => dn_up (h.l14_13 (dn_of hi hj (by decide))), l14_7 := fun hj => dn_up (h.l14_7 (dn_of hi hj (by decide))), l14_10 := fun hj => dn_up (h.l14_10 (dn_of hi hj (by decide))), l13_7 := fun hj => dn_up (h.l13_7 (dn_of hi hj (by decide))), l13_10 := fun hj => dn_up (h.l13_10 (dn_of hi hj (by decide))), l12_7 := fun hj => dn_up (h.l12_7 (dn_of hi hj (by decide))), l12_10 := fun hj => dn_up (h.l12_10 (dn_of hi hj (by decide))), l17_14 := fun hj => dn_up (h.l17_14 (dn_of hi hj (by decide))), p0 := rp hi h.p0, p1 := rp hi h.p1, p2 := rp hi h.p2, p3 := rp hi h.p3, p4 := rp hi h.p4, p5 := rp hi h.p5, p6 := rp hi h.p6, p7 := rp hi h.p7, p8 := rp hi h.p8, p9 := rp hi h.p9, p10 := fun _ => set_same (by have := h.siz; omega), p11 := rp hi h.p11, p12 := rp hi h.p12, p15 := rp hi h.p15, p16 := rp hi h.p16 }⟩
          · have hi : 11 < d.size := by omega
            have q6 := h.k6
            refine wpOp_plain rfl rfl ?_
            go_simp
            exact ⟨_, rfl, { bel := h.bel, siz := (by simpa using h.siz), kp := rk h.kp, k0 := rs h.k0, k5 := rs h.k5, k6 := rs h.k6, oth := fun hk => h.oth (fun q => hk (dn_up q)), sl := fun hj hk => by obtain ⟨g, e1, e2⟩ := h.sl (dn_of hi hj (by decide)) (fun q => hk (dn_up q)); exact ⟨g, (set_other (by decide)).trans e1, e2⟩, res := fun hj => by obtain ⟨u, e1, e2, e3⟩ := h.res (dn_of hi hj (by decide)); exact ⟨u, fun hk => ⟨(set_other (by decide)).trans (e1 (fun q => hk (dn_up q))).1, (e1 (fun q => hk (dn_up q))).2⟩, fun h9 => e2 (dn_of hi h9 (by decide)), e3⟩, l14_4 := fun hj => dn_up (h.l14_4 (dn_of hi hj (by decide))), l14_13 := fun hj => dn_up (h.l14_13 (dn_of hi hj (by decide))), l14_7 := fun hj => dn_up (h.l14_7 (dn_of hi hj (by decide))), l14_10 := fun hj => dn_up (h.l14_10 (dn_of hi hj (by decide))), l13_7 := fun hj => dn_up (h.l13_7 (dn_of hi hj (by decide))), l13_10 := fun hj => dn_up (h.l13_10 (dn_of hi hj (by decide))), l12_7 := fun hj => dn_up (h.l12_7 (dn_of hi hj (by decide))), l12_10 := fun hj => dn_up (h.l12_10 (dn_of hi hj (by decide))), l17_14 := fun hj => dn_up (h.l17_14 (dn_of hi hj (by decide))), p0 := rp hi h.p0, p1 := rp hi h.p1, p2 := rp hi h.p2, p3 := rp hi h.p3, p4 := rp hi h.p4, p5 := rp hi h.p5, p6 := rp hi h.p6, p7 := rp hi h.p7, p8 := rp hi h.p8, p9 := rp hi h.p9, p10 := rp hi h.p10, p11 := fun _ => set_same (by have := h.siz; omega), p12 := rp hi h.p12, p15 := rp hi h.p15, p16 := rp hi h.p16 }⟩
          · have hi : 12 < d.size := by omega
            have d7 : dn d 7 := hpre _ rfl ⟨7, .data⟩ (by simp) rfl
            have d10 : dn d 10 := hpre _ rfl ⟨10, .data⟩ (by simp) rfl
            have d11 : dn d 11 := hpre _ rfl ⟨11, .data⟩ (by simp) rfl
            have e7 := h.p7 d7
            have e10 := h.p10 d10
            have e11 := h.p11 d11
            refine wpOp_plain rfl rfl ?_
            go_simp
            exact ⟨_, rfl, { bel := h.bel, siz := (by simpa using h.siz), kp := rk h.kp, k0 := rs h.k0, k5 := rs h.k5, k6 := rs h.k6, oth := fun hk => h.oth (fun q => hk (dn_up q)), sl := fun hj hk => by obtain ⟨g, e1, e2⟩ := h.sl (dn_of hi hj (by decide)) (fun q => hk (dn_up q)); exact ⟨g, (set_other (by decide)).trans e1, e2⟩, res := fun hj => by obtain ⟨u, e1, e2, e3⟩ := h.res (dn_of hi hj (by decide)); exact ⟨u, fun hk => ⟨(set_other (by decide)).trans (e1 (fun q => hk (dn_up q))).1, (e1 (fun q => hk (dn_up q))).2⟩, fun h9 => e2 (dn_of hi h9 (by decide)), e3⟩, l14_4 := fun hj => dn_up (h.l14_4 (dn_of hi hj (by decide))), l14_13 := fun hj => dn_up (h.l14_13 (dn_of hi hj (by decide))), l14_7 := fun hj => dn_up (h.l14_7 (dn_of hi hj (by decide))), l14_10 := fun hj => dn_up (h.l14_10 (dn_of hi hj (by decide))), l13_7 := fun hj => dn_up (h.l13_7 (dn_of hi hj (by decide))), l13_10 := fun hj => dn_up (h.l13_10 (dn_of hi hj (by decide))), l12_7 := fun _ => dn_up d7, l12_10 := fun _ => dn_up d10, l17_14 := fun hj => dn_up (h.l17_14 (dn_of hi hj (by decide))), p0 := rp hi h.p0, p1 := rp hi h.p1, p2 := rp hi h.p2, p3 := rp hi h.p3, p4 := rp hi h.p4, p5 := rp hi h.p5, p6 := rp hi h.p6, p7 := rp hi h.p7, p8 := rp hi h.p8, p9 := rp hi h.p9, p10 := rp hi h.p10, p11 := rp hi h.p11, p12 := fun _ => set_same (by have := h.siz; omega), p15 := rp hi h.p15, p16 := rp hi h.p16 }⟩
          · have hi : 13 < d.size := by omega
            have hnd' := not_dn hi hnd
            have h7 : ¬ dn d 14 := fun q => hnd' (h.l14_13 q)
            have d12 : dn d 12 := hpre _ rfl ⟨12, .data⟩ (by simp) rfl
            have e12 := h.p12 d12
            have d7 : dn d 7 := h.l12_7 d12
            have d10 : dn d 10 := h.l12_10 d12
            have hb : Below wc.heap.size wc (wc.alloc (.cells #[.string b1, .string d1, .int .i64 nv] 65)) := (Below.refl _ _).alloc (Nat.le_refl _) _
            refine wpOp_plain rfl rfl ?_
            go_simp
            exact ⟨_, rfl, { bel := h.bel.trans (hb.mono (Nat.le_trans hLW (h.oth h7).size)), siz := (by simpa using h.siz), kp := rk h.kp, k0 := rs h.k0, k5 := rs h.k5, k6 := rs h.k6, oth := fun hk => (h.oth (fun q => hk (dn_up q))).trans (hb.mono (h.oth (fun q => hk (dn_up q))).size), sl := fun _ _ => ⟨wc.heap.size, set_same (by have := h.siz; omega), rds_block (xs := [⟨b1, d1, nv⟩]) len_clitic (heap_alloc_new _ _) rfl (by simp) (Nat.le_refl 1) (by decide)⟩, res := fun hj => absurd (h.l14_13 (dn_of hi hj (by decide))) hnd', l14_4 := fun hj => dn_up (h.l14_4 (dn_of hi hj (by decide))), l14_13 := fun hj => dn_up (h.l14_13 (dn_of hi hj (by decide))), l14_7 := fun hj => dn_up (h.l14_7 (dn_of hi hj (by decide))), l14_10 := fun hj => dn_up (h.l14_10 (dn_of hi hj (by decide))), l13_7 := fun _ => dn_up d7, l13_10 := fun _ => dn_up d10, l12_7 := fun hj => dn_up (h.l12_7 (dn_of hi hj (by decide))), l12_10 := fun hj => dn_up (h.l12_10 (dn_of hi hj (by decide))), l17_14 := fun hj => dn_up (h.l17_14 (dn_of hi hj (by decide))), p0 := rp hi h.p0, p1 := rp hi h.p1, p2 := rp hi h.p2, p3 := rp hi h.p3, p4 := rp hi h.p4, p5 := rp hi h.p5, p6 := rp hi h.p6, p7 := rp hi h.p7, p8 := rp hi h.p8, p9 := rp hi h.p9, p10 := rp hi h.p10, p11 := rp hi h.p11, p12 := rp hi h.p12, p15 := rp hi h.p15, p16 := rp hi h.p16 }⟩
          · have hi : 14 < d.size := by omega
            have hnd' := not_dn hi hnd
            have h7 := hnd'
            have d4 : dn d 4 := hpre _ rfl ⟨4, .data⟩ (by simp) rfl
            have d13 : dn d 13 := hpre _ rfl ⟨13, .data⟩ (by simp) rfl
            have e1 := h.p4 d4
            obtain ⟨g, e6, hr6⟩ := h.sl d13 h7
            have hot := h.oth h7
            have d7 : dn d 7 := h.l13_7 d13
            have d10 : dn d 10 := h.l13_10 d13
            have hrw := HROWN.out.below hot
            have hown := hrw.o2
            refine wpOp_plain rfl rfl ?_
            refine wp_append_rd (enc := encClitic) (.tmp 145) (.tmp 154) _ rfl (Lb + 1) 65 ii _ 3 40 len_clitic one_clitic Tryz.underlying24 hii hzi hsi hbi rfl (by decide) v2 _ _ (eval_tmp e1) hown wc.heap.size (.slice (some ⟨g, 0, none⟩) 1 1) [⟨b1, d1, nv⟩] (eval_tmp e6) hr6 (by simp only [maxLen]; show x.clitics.length + 1 ≤ _; omega) (by show (x.clitics.length + 1) * 40 ≤ _; omega) (by have := hot.size; omega) ?_
            intro v' w' hown' hg hat
            have hFn : v2.ownBlock ≠ some Lb := fun q => by have := (hown.lt _ q).1; omega
            exact ⟨_, rfl, { bel := h.bel.grown hg (by have := hot.size; omega) (fun k hk => by have := (hown.lt k hk).1; omega), siz := (by simpa using h.siz), kp := rk h.kp, k0 := rs h.k0, k5 := rs h.k5, k6 := rs h.k6, oth := fun hk => absurd (dn_self hi) hk, sl := fun _ hk => absurd (dn_self hi) hk, res := fun _ => ⟨v', fun _ => ⟨set_same (by have := h.siz; show _ < t.size; omega), (hg.block Lb (by have := hot.size; omega) (fun q => hFn q.symm)).trans ((hot.block Lb hLlt').trans HCN.out)⟩, fun h9 => absurd (h.l17_14 (dn_of hi h9 (by decide))) hnd', hrw.grow2 hfit (by simpa using hown') hg⟩, l14_4 := fun _ => dn_up d4, l14_13 := fun _ => dn_up d13, l14_7 := fun _ => dn_up d7, l14_10 := fun _ => dn_up d10, l13_7 := fun hj => dn_up (h.l13_7 (dn_of hi hj (by decide))), l13_10 := fun hj => dn_up (h.l13_10 (dn_of hi hj (by decide))), l12_7 := fun hj => dn_up (h.l12_7 (dn_of hi hj (by decide))), l12_10 := fun hj => dn_up (h.l12_10 (dn_of hi hj (by decide))), l17_14 := fun hj => dn_up (h.l17_14 (dn_of hi hj (by decide))), p0 := rp hi h.p0, p1 := rp hi h.p1, p2 := rp hi h.p2, p3 := rp hi h.p3, p4 := rp hi h.p4, p5 := rp hi h.p5, p6 := rp hi h.p6, p7 := rp hi h.p7, p8 := rp hi h.p8, p9 := rp hi h.p9, p10 := rp hi h.p10, p11 := rp hi h.p11, p12 := rp hi h.p12, p15 := rp hi h.p15, p16 := rp hi h.p16 }⟩
          · have hi : 15 < d.size := by omega
            have e0 := h.p0 (hpre _ rfl ⟨0, .data⟩ (by simp) rfl)
            refine wpOp_plain rfl rfl ?_
            go_simp
            exact ⟨_, rfl, { bel := h.bel, siz := (by simpa using h.siz), kp := rk h.kp, k0 := rs h.k0, k5 := rs h.k5, k6 := rs h.k6, oth := fun hk => h.oth (fun q => hk (dn_up q)), sl := fun hj hk => by obtain ⟨g, e1, e2⟩ := h.sl (dn_of hi hj (by decide)) (fun q => hk (dn_up q)); exact ⟨g, (set_other (by decide)).trans e1, e2⟩, res := fun hj => by obtain ⟨u, e1, e2, e3⟩ := h.res (dn_of hi hj (by decide)); exact ⟨u, fun hk => ⟨(set_other (by decide)).trans (e1 (fun q => hk (dn_up q))).1, (e1 (fun q => hk (dn_up q))).2⟩, fun h9 => e2 (dn_of hi h9 (by decide)), e3⟩, l14_4 := fun hj => dn_up (h.l14_4 (dn_of hi hj (by decide))), l14_13 := fun hj => dn_up (h.l14_13 (dn_of hi hj (by decide))), l14_7 := fun hj => dn_up (h.l14_7 (dn_of hi hj (by decide))), l14_10 := fun hj => dn_up (h.l14_10 (dn_of hi hj (by decide))), l13_7 := fun hj => dn_up (h.l13_7 (dn_of hi hj (by decide))), l13_10 := fun hj => dn_up (h.l13_10 (dn_of hi hj (by decide))), l12_7 := fun hj => dn_up (h.l12_7 (dn_of hi hj (by decide))), l12_10 := fun hj => dn_up (h.l12_10 (dn_of hi hj (by decide))), l17_14 := fun hj => dn_up (h.l17_14 (dn_of hi hj (by decide))), p0 := rp hi h.p0, p1 := rp hi h.p1, p2 := rp hi h.p2, p3 := rp hi h.p3, p4 := rp hi h.p4, p5 := rp hi h.p5, p6 := rp hi h.p6, p7 := rp hi h.p7, p8 := rp hi h.p8, p9 := rp hi h.p9, p10 := rp hi h.p10, p11 := rp hi h.p11, p12 := rp hi h.p12, p15 := fun _ => set_same (by have := h.siz; omega), p16 := rp hi h.p16 }⟩
          · have hi : 16 < d.size := by omega
            have e15 := h.p15 (hpre _ rfl ⟨15, .data⟩ (by simp) rfl)
            refine wpOp_plain rfl rfl ?_
            go_simp
            exact ⟨_, rfl, { bel := h.bel, siz := (by simpa using h.siz), kp := rk h.kp, k0 := rs h.k0, k5 := rs h.k5, k6 := rs h.k6, oth := fun hk => h.oth (fun q => hk (dn_up q)), sl := fun hj hk => by obtain ⟨g, e1, e2⟩ := h.sl (dn_of hi hj (by decide)) (fun q => hk (dn_up q)); exact ⟨g, (set_other (by decide)).trans e1, e2⟩, res := fun hj => by obtain ⟨u, e1, e2, e3⟩ := h.res (dn_of hi hj (by decide)); exact ⟨u, fun hk => ⟨(set_other (by decide)).trans (e1 (fun q => hk (dn_up q))).1, (e1 (fun q => hk (dn_up q))).2⟩, fun h9 => e2 (dn_of hi h9 (by decide)), e3⟩, l14_4 := fun hj => dn_up (h.l14_4 (dn_of hi hj (by decide))), l14_13 := fun hj => dn_up (h.l14_13 (dn_of hi hj (by decide))), l14_7 := fun hj => dn_up (h.l14_7 (dn_of hi hj (by decide))), l14_10 := fun hj => dn_up (h.l14_10 (dn_of hi hj (by decide))), l13_7 := fun hj => dn_up (h.l13_7 (dn_of hi hj (by decide))), l13_10 := fun hj => dn_up (h.l13_10 (dn_of hi hj (by decide))), l12_7 := fun hj => dn_up (h.l12_7 (dn_of hi hj (by decide))), l12_10 := fun hj => dn_up (h.l12_10 (dn_of hi hj (by decide))), l17_14 := fun hj => dn_up (h.l17_14 (dn_of hi hj (by decide))), p0 := rp hi h.p0, p1 := rp hi h.p1, p2 := rp hi h.p2, p3 := rp hi h.p3, p4 := rp hi h.p4, p5 := rp hi h.p5, p6 := rp hi h.p6, p7 := rp hi h.p7, p8 := rp hi h.p8, p9 := rp hi h.p9, p10 := rp hi h.p10, p11 := rp hi h.p11, p12 := rp hi h.p12, p15 := rp hi h.p15, p16 := fun _ => set_same (by have := h.siz; omega) }⟩
          · have hi : 17 < d.size := by omega
            have hnd' := not_dn hi hnd
            have d16 : dn d 16 := hpre _ rfl ⟨16, .data⟩ (by simp) rfl
            have d14 : dn d 14 := hpre _ rfl ⟨14, .data⟩ (by simp) rfl
            have e8 := h.p16 d16
            obtain ⟨u, q1, q2, q3⟩ := h.res d14
            obtain ⟨q4, q5⟩ := q1 hnd'
            obtain ⟨s0, s1, s2, z0, z1, z2⟩ := lex_cells6 q5
            obtain ⟨Au, cu, rfl⟩ := own_form q3.o2
            refine wpOp_plain rfl rfl ?_
            go_simp
            exact ⟨_, rfl, { bel := h.bel.setCell (by exact Nat.le_refl _) _, siz := h.siz, kp := h.kp, k0 := h.k0, k5 := h.k5, k6 := h.k6, oth := fun hk => absurd (dn_up d14) hk, sl := fun _ hk => absurd (dn_up d14) hk, res := fun _ => ⟨_, fun hk => absurd (dn_self hi) hk, fun _ => by simp [World.setCell, Array.getElem?_modify, q5], q3.store (by exact Nat.lt_succ_self _) _⟩, l14_4 := fun hj => dn_up (h.l14_4 (dn_of hi hj (by decide))), l14_13 := fun hj => dn_up (h.l14_13 (dn_of hi hj (by decide))), l14_7 := fun hj => dn_up (h.l14_7 (dn_of hi hj (by decide))), l14_10 := fun hj => dn_up (h.l14_10 (dn_of hi hj (by decide))), l13_7 := fun hj => dn_up (h.l13_7 (dn_of hi hj (by decide))), l13_10 := fun hj => dn_up (h.l13_10 (dn_of hi hj (by decide))), l12_7 := fun hj => dn_up (h.l12_7 (dn_of hi hj (by decide))), l12_10 := fun hj => dn_up (h.l12_10 (dn_of hi hj (by decide))), l17_14 := fun _ => dn_up d14, p0 := rn hi h.p0, p1 := rn hi h.p1, p2 := rn hi h.p2, p3 := rn hi h.p3, p4 := rn hi h.p4, p5 := rn hi h.p5, p6 := rn hi h.p6, p7 := rn hi h.p7, p8 := rn hi h.p8, p9 := rn hi h.p9, p10 := rn hi h.p10, p11 := rn hi h.p11, p12 := rn hi h.p12, p15 := rn hi h.p15, p16 := rn hi h.p16 }⟩
        case gendc =>
          intro d a wc hd hI hall
          obtain ⟨t, rfl, h⟩ := hI
          have hdn : ∀ j, j < 18 → dn d j := fun j hj => dn_all hd hall hj
          have hd : ∀ j, (_ : j < 18 := by decide) → dn d j := fun j hj => hdn j hj
          obtain ⟨t154, x154⟩ : ∃ v, t[154]? = some v := ⟨_, Array.getElem?_eq_getElem (by have := h.siz; omega)⟩
          obtain ⟨t155, x155⟩ : ∃ v, t[155]? = some v := ⟨_, Array.getElem?_eq_getElem (by have := h.siz; omega)⟩
          have hfe := frame_eq [(141, _), (142, _), (143, _), (144, _), (145, _), (146, _), (147, _), (148, _), (149, _), (150, _), (151, _), (152, _), (153, _), (154, _), (155, _), (156, _), (157, _)] (h.siz.trans rfl) h.kp rfl ⟨h.p0 (hd 0), h.p1 (hd 1), h.p2 (hd 2), h.p3 (hd 3), h.p4 (hd 4), h.p5 (hd 5), h.p6 (hd 6), h.p7 (hd 7), h.p8 (hd 8), h.p9 (hd 9), h.p10 (hd 10), h.p11 (hd 11), h.p12 (hd 12), x154, x155, h.p15 (hd 15), h.p16 (hd 16), trivial⟩
          simp only [List.foldl_cons, List.foldl_nil, List.setIfInBounds_toArray, List.set_cons_succ, List.set_cons_zero] at hfe
          have hbc := h.bel
          subst hfe
          have hres := h.res (hd 14)
          have h9d := hd 17
          clear h hdn hall
          have hbc' := hbc
          obtain ⟨u, -, hfin, hown9⟩ := hres
          have hfin := hfin h9d
          have HBF := Lib.hid ((HB.out.mono (by omega : Lb ≤ w.heap.size)).trans hbc')
          have HFI := Lib.hid hfin
          have HOW := Lib.hid hown9
          clear hbc hbc' hfin hown9 h9d
          go_wp2_with fail
          go_ret
          exact retLine_some (b := true) HLQ.out HBF.out ⟨_, _, _, HFI.out, HOW.out⟩
      · have HN : Hid (Lx.lineV x ws = none) := Lib.hid (by
          rw [HLV.out, if_neg]
          rintro ⟨q1, q2⟩
          exact hw (by rw [Go.Lib.toList_data]; exact q1))
        have HW := Lib.hid hw
        clear hw
        go_wp2_with fail
        all_goals first
          | (exfalso; exact HW.out (by assumption))
          | (go_ret; exact retLine_none HN.out HB.out (by omega))
    · have h4I : ¬ (l.length : Int) = 4 := by omega
      have h5I : ¬ (l.length : Int) = 5 := by omega
      have HN : Hid (Lx.lineV x ws = none) := Lib.hid (HWS.out ▸ Lx.lineV_len (by rw [List.length_map]; omega) (by rw [List.length_map]; omega))
      go_wp2_with fail
      all_goals
        go_ret
        exact retLine_none HN.out HB.out (by omega)
end Go.Proofs.YtpmnpnlfgfleeaaGreatDoor
