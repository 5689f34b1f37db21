/- ostraconlaw01.alike. Merging two sign lists: plain law. -/
import Derived.Test.YtkmimjngmfdpmaaGreatDoorMpSgGTidy
import Derived.Test.YtkmimjngmfdpmaaGreatDoorMpSgSame
namespace Go.Proofs.YtkmimjngmfdpmaaGreatDoor
open Go Go.RowKit

theorem Sg.alike_step {e : Sg.Value} {xs ys : List Sg.Value} {k : Nat} (he : xs[k]? = some e) (hk : ∀ (j : Nat) (z : Sg.Value), j < k → xs[j]? = some z → ys.any (Sg.sameN z) = true) (hf : ys.any (Sg.sameN e) = true) : ∀ (j : Nat) (z : Sg.Value), j < k + 1 → xs[j]? = some z → ys.any (Sg.sameN z) = true := by
  intro j z hj hz
  rcases Nat.lt_or_ge j k with h | h
  · exact hk j z h hz
  · have : j = k := by omega
    subst this
    rw [he] at hz
    cases hz
    exact hf
theorem Sg.alike_yes {xs ys : List Sg.Value} {k : Nat} (hl : xs.length = ys.length) (h : xs.length ≤ k) (hk : ∀ (j : Nat) (z : Sg.Value), j < k → xs[j]? = some z → ys.any (Sg.sameN z) = true) : Sg.alikeB xs ys = true := by
  unfold Sg.alikeB
  rw [Bool.and_eq_true]
  refine ⟨decide_eq_true hl, List.all_eq_true.2 fun x hx => ?_⟩
  obtain ⟨j, hj, e⟩ := List.getElem_of_mem hx
  exact hk j x (by omega) (by rw [← e]; exact List.getElem?_eq_getElem hj)
theorem Sg.alike_no {e : Sg.Value} {xs ys : List Sg.Value} {k : Nat} (he : xs[k]? = some e) (hf : ys.any (Sg.sameN e) = false) : Sg.alikeB xs ys = false := by
  unfold Sg.alikeB
  rw [Bool.and_eq_false_iff]
  refine .inr (Bool.eq_false_iff.2 fun h => ?_)
  have := List.all_eq_true.1 h e (List.mem_of_getElem? he)
  rw [hf] at this
  cases this
theorem Sg.any_take {e f : Sg.Value} {ys : List Sg.Value} {m : Nat} (hf : ys[m]? = some f) : (ys.take (m + 1)).any (Sg.sameN e) = ((ys.take m).any (Sg.sameN e) || Sg.sameN e f) := by
  rw [List.take_add_one, hf, List.any_append]
  simp
set_option maxRecDepth 100000 in
set_option maxHeartbeats 4000000 in
theorem alike_any {B B' : Nat} (v v' : Value) (xs ys : List Sg.Value) (w : World) (hx : RdS w B 4 encValue v xs) (hy : RdS w B' 4 encValue v' ys) : Calls Tryz.prog 47 #[v, v'] w (RetBB (Sg.alikeB xs ys) w) := by
  obtain ⟨A, c, rfl, hlc, hc63⟩ := rds_form hx
  obtain ⟨A', c', rfl, hlc', hc63'⟩ := rds_form hy
  have HX := Lib.hid hx
  have HY := Lib.hid hy
  clear hx hy
  by_cases hlen : xs.length = ys.length
  case neg =>
    have i1 : ¬ (xs.length : Int) = (ys.length : Int) := by omega
    have HN : Hid (Sg.alikeB xs ys = false) := Lib.hid (by unfold Sg.alikeB; rw [decide_eq_false hlen]; rfl)
    clear hlen
    go_enter Tryz.func47, Tryz.ntmps47
    go_wp2_with fail
    go_ret
    exact ⟨ret_bool (by rw [HN.out]), Below.refl _ _⟩
  have i1 : (xs.length : Int) = (ys.length : Int) := by omega
  have HLEN := Lib.hid hlen
  clear hlen
  go_enter Tryz.func47, Tryz.ntmps47
  go_wp2_with fail
  clear i1
  go_loopg [5] xs.length (fun g i wr => ∃ k : Nat, k ≤ xs.length ∧ g = xs.length - k ∧ i = .int .i64 (k : Nat) ∧ (∃ n, wr = w.drewN n) ∧ ∀ (j : Nat) (z : Sg.Value), j < k → xs[j]? = some z → ys.any (Sg.sameN z) = true)
  case atStart => exact ⟨0, Nat.zero_le _, rfl, rfl, ⟨0, rfl⟩, fun j z hj => absurd hj (by omega)⟩
  case round =>
    obtain ⟨k, hk, rfl, rfl, ⟨nd, hwr⟩, htk⟩ := hrel
    have HTK := Lib.hid htk
    have HB : Hid (Below w.heap.size w wr) := Lib.hid (by rw [hwr]; exact below_drewN (Below.refl _ _) _)
    have HW0 : Hid (∃ n, wr = w.drewN n) := Lib.hid ⟨nd, hwr⟩
    clear htk hwr
    by_cases hlt : k < xs.length
    · obtain ⟨e, he⟩ : ∃ e, xs[k]? = some e := ⟨_, List.getElem?_eq_getElem hlt⟩
      obtain ⟨b, off, rfl, hb, hcell⟩ := RdX.four HX.out (by omega)
      obtain ⟨g0, g1, g2, g3⟩ := hcell k e he
      have HE := Lib.hid he
      have HG0 := Lib.hid g0
      have HG1 := Lib.hid g1
      have hkI : (0 : Int) ≤ (k : Int) := by omega
      have hkJ : (k : Int) < (xs.length : Int) := by omega
      clear he hcell g0 g1 g2 g3
      go_wp2_with fail
      go_loopg [6, 7] ys.length (fun g fv i wi => ∃ m : Nat, m ≤ ys.length ∧ g = ys.length - m ∧ i = .int .i64 (m : Nat) ∧ (∃ n, wi = w.drewN n) ∧ fv = .bool ((ys.take m).any (Sg.sameN e)))
      case atStart => exact ⟨0, Nat.zero_le _, rfl, rfl, HW0.out, rfl⟩
      case round =>
        obtain ⟨m, hm, rfl, rfl, ⟨nd, hwi⟩, hfv⟩ := hrel
        rename World => wi
        have HBI : Hid (Below w.heap.size w wi) := Lib.hid (by rw [hwi]; exact below_drewN (Below.refl _ _) _)
        have HCE : Hid (∀ p, wi.cell? p = w.cell? p) := Lib.hid fun p => by rw [hwi]; rfl
        have HWR : Hid (∀ n, ∃ m, wi.drewN n = w.drewN m) := Lib.hid fun n => ⟨nd + n, by rw [hwi]; exact (World.drewN_drewN _ _ _)⟩
        obtain ⟨fb, hfb⟩ : ∃ fb, fb = (ys.take m).any (Sg.sameN e) := ⟨_, rfl⟩
        rw [← hfb] at hfv
        subst hfv
        have HFB := Lib.hid hfb
        have HWI : Hid (∃ n, wi = w.drewN n) := Lib.hid ⟨nd, hwi⟩
        clear hwi hfb
        by_cases hmt : m < ys.length
        · obtain ⟨f, hf⟩ : ∃ f, ys[m]? = some f := ⟨_, List.getElem?_eq_getElem hmt⟩
          obtain ⟨b', off', rfl, hb', hcell'⟩ := RdX.four HY.out (by omega)
          obtain ⟨h0, h1, h2, h3⟩ := hcell' m f hf
          have f0 := (HCE.out ⟨b, off + k * 4, none⟩).trans HG0.out
          have f1 := (HCE.out ⟨b, off + k * 4 + 1, none⟩).trans HG1.out
          have e0 := (HCE.out ⟨b', off' + m * 4, none⟩).trans h0
          have e1 := (HCE.out ⟨b', off' + m * 4 + 1, none⟩).trans h1
          have HF := Lib.hid hf
          have HT := Lib.hid (Sg.any_take (e := e) hf)
          have hmI : (0 : Int) ≤ (m : Int) := by omega
          have hmJ : (m : Int) < (ys.length : Int) := by omega
          clear hf hcell' h0 h1 h2 h3
          cases fb
          · by_cases q0 : e.kind = f.kind
            · by_cases q1 : e.text = f.text
              · have r0 : (e.kind == f.kind) = true := by rw [beq_iff_eq]; exact q0
                have r1 : (e.text.toList == f.text.toList) = true := by rw [q1]; exact beq_self_eq_true _
                have HV : Hid ((ys.take (m + 1)).any (Sg.sameN e) = true) := Lib.hid (by rw [HT.out]; unfold Sg.sameN; simp [q0, q1])
                clear q0 q1
                go_wp2_with fail
                go_quiet (fail)
                go_wp2_with fail
                go_roundg (ys.length - (m + 1))
                case measure => omega
                case rel => exact ⟨m + 1, by omega, rfl, by go_num, HWR.out _, by rw [HV.out]⟩
              · have r0 : (e.kind == f.kind) = true := by rw [beq_iff_eq]; exact q0
                have r1 : (e.text.toList == f.text.toList) = false := Lx.toList_ne q1
                have HV : Hid ((ys.take (m + 1)).any (Sg.sameN e) = false) := Lib.hid (by rw [HT.out, ← HFB.out]; unfold Sg.sameN; simp [q1])
                clear q0 q1
                go_wp2_with fail
                go_quiet (fail)
                go_wp2_with fail
                go_roundg (ys.length - (m + 1))
                case measure => omega
                case rel => exact ⟨m + 1, by omega, rfl, by go_num, HWR.out _, by rw [HV.out]⟩
            · have r0 : (e.kind == f.kind) = false := by rw [beq_eq_false_iff_ne]; exact q0
              have HV : Hid ((ys.take (m + 1)).any (Sg.sameN e) = false) := Lib.hid (by rw [HT.out, ← HFB.out]; unfold Sg.sameN; simp [q0])
              clear q0
              go_wp2_with fail
              go_quiet (fail)
              go_wp2_with fail
              go_roundg (ys.length - (m + 1))
              case measure => omega
              case rel => exact ⟨m + 1, by omega, rfl, by go_num, HWR.out _, by rw [HV.out]⟩
          · have HV : Hid ((ys.take (m + 1)).any (Sg.sameN e) = true) := Lib.hid (by rw [HT.out, ← HFB.out]; rfl)
            go_wp2_with fail
            go_quiet (fail)
            go_wp2_with fail
            go_roundg (ys.length - (m + 1))
            case measure => omega
            case rel => exact ⟨m + 1, by omega, rfl, by go_num, HWR.out _, by rw [HV.out]⟩
        · have HA : Hid (fb = ys.any (Sg.sameN e)) := Lib.hid (by rw [HFB.out, List.take_of_length_le (by omega)])
          cases fb
          · have HN := Lib.hid (Sg.alike_no HE.out HA.out.symm)
            go_wp2_with fail
            go_ret
            exact ⟨ret_bool (by rw [HN.out]), HBI.out⟩
          · have HN := Lib.hid (Sg.alike_step HE.out HTK.out HA.out.symm)
            go_wp2_with fail
            go_roundg (xs.length - (k + 1))
            case measure => omega
            case rel => exact ⟨k + 1, by omega, rfl, by go_num, HWI.out, HN.out⟩
    · have HYES := Lib.hid (Sg.alike_yes HLEN.out (by omega) HTK.out)
      go_wp2_with fail
      go_ret
      exact ⟨ret_bool (by rw [HYES.out]), HB.out⟩
end Go.Proofs.YtkmimjngmfdpmaaGreatDoor
namespace Sg
open Go
def isC (c : ByteArray) (t : Sign) : Bool := decide (t.code = c)
def hasC (l : List Sign) (c : ByteArray) : Bool := l.any (isC c)
/-- the values under a code -/
def valsAt (l : List Sign) (c : ByteArray) : List Value := match l.find? (isC c) with
  | some t => t.values
  | none => []
def joinS (b : List Sign) (s : Sign) : Sign := ⟨s.code, s.wide, s.high, s.even, s.values ++ valsAt b s.code⟩
/-- the signs of both lists, with the values of both -/
def uniteL (a b : List Sign) : List Sign := a.map (joinS b) ++ b.filter fun t => !hasC a t.code
def oddS (s t : Sign) : Bool := !(decide (t.wide = s.wide) && decide (t.high = s.high) && decide (t.even = s.even))
/-- is there a sign in both whose sizes part -/
def clashB (a b : List Sign) : Bool := a.any fun s => match b.find? (isC s.code) with
  | some t => oddS s t
  | none => false
def mergedL (a b : SList) : SList := ⟨max a.periods b.periods, (uniteL a.signs b.signs).map tidyS⟩
def manyL (l : List Sign) : Bool := decide (200 < l.length) || l.any fun s => decide (12 < s.values.length)
def mergeE (a b : SList) : Int := if checkV a ≠ 0 then checkV a else if checkV b ≠ 0 then checkV b else if clashB a.signs b.signs = true then 11 else if manyL (mergedL a b).signs = true then 2 else 0
def mergeL (a b : SList) : SList := if mergeE a b = 0 then mergedL a b else noL
/-- no code comes twice -/
def Uniq (l : List Sign) : Prop := ∀ (i j : Nat) (s t : Sign), l[i]? = some s → l[j]? = some t → s.code = t.code → i = j
theorem uniq_of {l : SList} (h : checkV l = 0) : Uniq l.signs := by
  have key : ∀ (i j : Nat) (s t : Sign), i < j → l.signs[i]? = some s → l.signs[j]? = some t → s.code ≠ t.code := by
    intro i j s t hij hs ht e
    have h2 := (sign_parts ((check_sign h).2.2 j t ht)).2.1
    rw [List.any_eq_false] at h2
    exact h2 s (List.mem_of_getElem? (i := i) (by rw [List.getElem?_take_of_lt hij]; exact hs)) (by simp [e])
  intro i j s t hs ht e
  rcases Nat.lt_trichotomy i j with q | q | q
  · exact absurd e (key i j s t q hs ht)
  · exact q
  · exact absurd e.symm (key j i t s q ht hs)
theorem uniq_mem {l : List Sign} (h : Uniq l) {s t : Sign} (hs : s ∈ l) (ht : t ∈ l) (e : s.code = t.code) : s = t := by
  obtain ⟨i, hi⟩ := List.getElem?_of_mem hs
  obtain ⟨j, hj⟩ := List.getElem?_of_mem ht
  have := h i j s t hi hj e
  subst this
  rw [hi] at hj
  exact Option.some.inj hj
theorem uniq_take {l : List Sign} (h : Uniq l) (k : Nat) : Uniq (l.take k) := by
  intro i j s t hs ht e
  rw [List.getElem?_take] at hs ht
  split at hs
  · split at ht
    · exact h i j s t hs ht e
    · cases ht
  · cases hs
theorem find_uniq {l : List Sign} (h : Uniq l) {t : Sign} (ht : t ∈ l) {c : ByteArray} (hc : t.code = c) : l.find? (isC c) = some t := by
  cases hf : l.find? (isC c) with
  | none =>
    rw [List.find?_eq_none] at hf
    exact absurd (show isC c t = true by simp [isC, hc]) (hf t ht)
  | some s =>
    have h1 := List.mem_of_find?_eq_some hf
    have h2 := List.find?_some hf
    have h3 : s.code = c := by simpa [isC] using h2
    rw [uniq_mem h h1 ht (h3.trans hc.symm)]
theorem find_not {l : List Sign} {c : ByteArray} (h : hasC l c = false) : l.find? (isC c) = none := by
  unfold hasC at h
  rw [List.find?_eq_none]
  rw [List.any_eq_false] at h
  intro t ht
  simpa using h t ht
theorem vals_not {l : List Sign} {c : ByteArray} (h : hasC l c = false) : valsAt l c = [] := by unfold valsAt; rw [find_not h]
theorem vals_one {l : List Sign} (h : Uniq l) {t : Sign} (ht : t ∈ l) : valsAt l t.code = t.values := by unfold valsAt; rw [find_uniq h ht rfl]
theorem has_mem {l : List Sign} {c : ByteArray} : hasC l c = true ↔ ∃ t ∈ l, t.code = c := by
  unfold hasC
  rw [List.any_eq_true]
  simp [isC]
/-- a sign of b goes in: a has none with its code -/
theorem unite_new {a b : List Sign} {k : Nat} {s : Sign} (hs : b[k]? = some s) (hn : hasC a s.code = false) : uniteL a (b.take (k + 1)) = uniteL a (b.take k) ++ [s] := by
  have e : b.take (k + 1) = b.take k ++ [s] := by rw [List.take_add_one, hs]; rfl
  unfold uniteL
  rw [e, List.filter_append, ← List.append_assoc]
  congr 1
  · congr 1
    refine List.map_congr_left fun t ht => ?_
    unfold joinS
    congr 2
    unfold valsAt
    rw [List.find?_append]
    have h0 : List.find? (isC t.code) [s] = none := by
      rw [List.find?_eq_none]
      intro x hx
      rw [List.mem_singleton] at hx
      subst hx
      intro hc
      have : x.code = t.code := by simpa [isC] using hc
      have h1 := has_mem.2 ⟨t, ht, this.symm⟩
      rw [hn] at h1
      cases h1
    rw [h0, Option.or_none]
  · simp [hn]
/-- a sign of b goes in: the values go toq the sign of a with its code -/
theorem unite_old {a b : List Sign} (ha : Uniq a) (hb : Uniq b) {k i : Nat} {s t : Sign} (hs : b[k]? = some s) (ht : a[i]? = some t) (hc : t.code = s.code) :
    (uniteL a (b.take (k + 1))).length = (uniteL a (b.take k)).length ∧ (uniteL a (b.take k))[i]? = some t ∧ (uniteL a (b.take (k + 1)))[i]? = some ⟨t.code, t.wide, t.high, t.even, t.values ++ s.values⟩ ∧
      ∀ j, j ≠ i → (uniteL a (b.take (k + 1)))[j]? = (uniteL a (b.take k))[j]? := by
  have e : b.take (k + 1) = b.take k ++ [s] := by rw [List.take_add_one, hs]; rfl
  have hh : hasC a s.code = true := has_mem.2 ⟨t, List.mem_of_getElem? ht, hc⟩
  have hno : hasC (b.take k) s.code = false := by
    rw [Bool.eq_false_iff]
    intro q
    obtain ⟨u, hu, huc⟩ := has_mem.1 q
    obtain ⟨j, hj⟩ := List.getElem?_of_mem hu
    rw [List.getElem?_take] at hj
    split at hj
    · have := hb j k u s hj hs huc
      omega
    · cases hj
  have hf : (b.take (k + 1)).filter (fun t => !hasC a t.code) = (b.take k).filter fun t => !hasC a t.code := by
    rw [e, List.filter_append]
    simp [hh]
  have hil := (List.getElem?_eq_some_iff.1 ht).1
  have hvs : valsAt (b.take (k + 1)) t.code = s.values := by
    rw [hc]
    exact vals_one (uniq_take hb _) (by rw [e]; simp)
  have hvo : ∀ u ∈ a, u.code ≠ s.code → valsAt (b.take (k + 1)) u.code = valsAt (b.take k) u.code := by
    intro u hu hne
    unfold valsAt
    rw [e, List.find?_append]
    have h0 : List.find? (isC u.code) [s] = none := by
      rw [List.find?_eq_none]
      intro x hx
      rw [List.mem_singleton] at hx
      subst hx
      simpa [isC] using fun q : x.code = u.code => hne q.symm
    rw [h0, Option.or_none]
  unfold uniteL
  rw [hf]
  refine ⟨by simp, ?_, ?_, fun j hj => ?_⟩
  · rw [List.getElem?_append_left (by simpa using hil), List.getElem?_map, ht]
    simp only [Option.map_some, joinS]
    rw [hc, vals_not hno, List.append_nil, ← hc]
  · rw [List.getElem?_append_left (by simpa using hil), List.getElem?_map, ht]
    simp only [Option.map_some, joinS]
    rw [hvs]
  · by_cases hja : j < a.length
    · rw [List.getElem?_append_left (by simpa using hja), List.getElem?_append_left (by simpa using hja), List.getElem?_map, List.getElem?_map]
      obtain ⟨u, hu⟩ : ∃ u, a[j]? = some u := ⟨_, List.getElem?_eq_getElem hja⟩
      rw [hu]
      simp only [Option.map_some, joinS]
      rw [hvo u (List.mem_of_getElem? hu) fun q => hj (ha j i u t hu ht (q.trans hc.symm))]
    · rw [List.getElem?_append_right (by simpa using Nat.not_lt.1 hja), List.getElem?_append_right (by simpa using Nat.not_lt.1 hja)]
      simp
theorem unite_nil (a : List Sign) : uniteL a [] = a := by
  unfold uniteL
  simp only [List.filter_nil, List.append_nil]
  have : joinS [] = id := by
    funext s
    simp [joinS, valsAt]
  rw [this, List.map_id]
/-- the program's look at the sizes, from the other list -/
theorem clash_of {a b : List Sign} (hb : Uniq b) {s t : Sign} (hs : s ∈ b) (ht : t ∈ a) (hc : t.code = s.code) (ho : oddS t s = true) : clashB a b = true := by
  unfold clashB
  rw [List.any_eq_true]
  refine ⟨t, ht, ?_⟩
  rw [find_uniq hb hs hc.symm]
  exact ho
theorem clash_not {a b : List Sign} (h : ∀ s ∈ b, ∀ t ∈ a, t.code = s.code → oddS t s = false) : clashB a b = false := by
  unfold clashB
  rw [List.any_eq_false]
  intro t ht hc
  cases hf : b.find? (isC t.code) with
  | none => rw [hf] at hc; cases hc
  | some s =>
    rw [hf] at hc
    have h1 := List.mem_of_find?_eq_some hf
    have h2 := List.find?_some hf
    have h3 : s.code = t.code := by simpa [isC] using h2
    simp only at hc
    rw [h s h1 t ht h3.symm] at hc
    cases hc
theorem vals_mem {l : List Sign} {c : ByteArray} {v : Value} (h : v ∈ valsAt l c) : ∃ t ∈ l, v ∈ t.values := by
  unfold valsAt at h
  cases hf : l.find? (isC c) with
  | none => rw [hf] at h; cases h
  | some t => rw [hf] at h; exact ⟨t, List.mem_of_find?_eq_some hf, h⟩
end Sg
