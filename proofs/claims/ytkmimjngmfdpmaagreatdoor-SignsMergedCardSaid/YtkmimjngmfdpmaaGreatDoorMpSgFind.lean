/- The answers of a merge, case by case: plain law.; signs.index, Find; ostraconref01.Find. -/
import Derived.Test.YtkmimjngmfdpmaaGreatDoorMpSgMergePlain
import Derived.Test.YtkmimjngmfdpmaaGreatDoorMpSgRCheck
import Derived.Test.YtkmimjngmfdpmaaGreatDoorMpSgBear
namespace Sg
open Go
theorem merge_ca {a b : SList} (h : checkV a ≠ 0) : mergeE a b = checkV a ∧ mergeL a b = noL := by
  have e : mergeE a b = checkV a := by unfold mergeE; rw [if_pos h]
  exact ⟨e, by unfold mergeL; rw [if_neg (by rw [e]; exact h)]⟩
theorem merge_cb {a b : SList} (h0 : checkV a = 0) (h : checkV b ≠ 0) : mergeE a b = checkV b ∧ mergeL a b = noL := by
  have e : mergeE a b = checkV b := by unfold mergeE; rw [if_neg (by simp [h0]), if_pos h]
  exact ⟨e, by unfold mergeL; rw [if_neg (by rw [e]; exact h)]⟩
theorem merge_clash {a b : SList} (h0 : checkV a = 0) (h1 : checkV b = 0) (h : clashB a.signs b.signs = true) : mergeE a b = 11 ∧ mergeL a b = noL := by
  have e : mergeE a b = 11 := by unfold mergeE; rw [if_neg (by simp [h0]), if_neg (by simp [h1]), if_pos h]
  exact ⟨e, by unfold mergeL; rw [if_neg (by rw [e]; decide)]⟩
theorem merge_many {a b : SList} (h0 : checkV a = 0) (h1 : checkV b = 0) (hc : clashB a.signs b.signs = false) (h : manyL (mergedL a b).signs = true) : mergeE a b = 2 ∧ mergeL a b = noL := by
  have e : mergeE a b = 2 := by unfold mergeE; rw [if_neg (by simp [h0]), if_neg (by simp [h1]), if_neg (by simp [hc]), if_pos h]
  exact ⟨e, by unfold mergeL; rw [if_neg (by rw [e]; decide)]⟩
theorem merge_done {a b : SList} (h0 : checkV a = 0) (h1 : checkV b = 0) (hc : clashB a.signs b.signs = false) (h : manyL (mergedL a b).signs = false) : mergeE a b = 0 ∧ mergeL a b = mergedL a b := by
  have e : mergeE a b = 0 := by unfold mergeE; rw [if_neg (by simp [h0]), if_neg (by simp [h1]), if_neg (by simp [hc]), if_neg (by simp [h])]
  exact ⟨e, by unfold mergeL; rw [if_pos e]⟩
theorem many_tidy (U : List Sign) : manyL (U.map tidyS) = (decide (200 < U.length) || U.any fun s => decide (12 < (tidiedV s.values).length)) := by
  unfold manyL
  rw [List.length_map, List.any_map]
  rfl
/-- what is known of the values of a united list -/
theorem unite_vals {a b : SList} (h0 : checkV a = 0) (h1 : checkV b = 0) (k : Nat) : ∀ s ∈ uniteL a.signs (b.signs.take k), s.values.length ≤ 24 ∧ ∀ x ∈ s.values, 1 ≤ x.lo ∧ x.lo ≤ x.hi ∧ x.hi ≤ 9 := by
  have F : ∀ {l : SList}, checkV l = 0 → ∀ s ∈ l.signs, s.values.length ≤ 12 ∧ ∀ x ∈ s.values, 1 ≤ x.lo ∧ x.lo ≤ x.hi ∧ x.hi ≤ 9 := by
    intro l hl s hs
    obtain ⟨i, hi⟩ := List.getElem?_of_mem hs
    have hc := check_sign hl
    have hp := sign_parts (hc.2.2 i s hi)
    refine ⟨hp.2.2.2.1, fun x hx => ?_⟩
    obtain ⟨j, hj⟩ := List.getElem?_of_mem hx
    have := (value_at hp.2.2.2.2 hj).2.1
    have := hc.1
    omega
  intro s hs
  unfold uniteL at hs
  rcases List.mem_append.1 hs with hs | hs
  · obtain ⟨u, hu, rfl⟩ := List.mem_map.1 hs
    have hf := F h0 u hu
    have hv : (valsAt (b.signs.take k) u.code).length ≤ 12 := by
      unfold valsAt
      cases hq : (b.signs.take k).find? (isC u.code) with
      | none => exact Nat.zero_le _
      | some t => exact (F h1 t (List.mem_of_mem_take (List.mem_of_find?_eq_some hq))).1
    refine ⟨?_, fun x hx => ?_⟩
    · show (u.values ++ valsAt (b.signs.take k) u.code).length ≤ 24
      rw [List.length_append]
      have := hf.1
      omega
    · rcases List.mem_append.1 hx with hx | hx
      · exact hf.2 x hx
      · obtain ⟨t, ht, hxt⟩ := vals_mem hx
        exact (F h1 t (List.mem_of_mem_take ht)).2 x hxt
  · have := F h1 s (List.mem_of_mem_take (List.mem_filter.1 hs).1)
    exact ⟨by omega, this.2⟩
theorem unite_len {a b : List Sign} (k : Nat) : (uniteL a (b.take k)).length ≤ a.length + k := by
  unfold uniteL
  rw [List.length_append, List.length_map]
  have h1 := List.length_filter_le (fun t => !hasC a t.code) (b.take k)
  have h2 := List.length_take_le k b
  omega
theorem unite_set {a b : List Sign} (ha : Uniq a) (hb : Uniq b) {k i : Nat} {s t : Sign} (hs : b[k]? = some s) (ht : a[i]? = some t) (hc : t.code = s.code) :
    uniteL a (b.take (k + 1)) = (uniteL a (b.take k)).set i ⟨t.code, t.wide, t.high, t.even, t.values ++ s.values⟩ := by
  obtain ⟨h1, h2, h3, h4⟩ := unite_old ha hb hs ht hc
  refine List.ext_getElem? fun j => ?_
  by_cases hj : j = i
  · subst hj
    rw [h3, List.getElem?_set_self (List.getElem?_eq_some_iff.1 h2).1]
  · rw [h4 j hj, List.getElem?_set_ne (fun e => hj e.symm)]
theorem unite_texts {a b : List Sign} {p : Value → Prop} {q : ByteArray → Prop} (ha : ∀ s ∈ a, q s.code ∧ ∀ v ∈ s.values, p v) (hb : ∀ s ∈ b, q s.code ∧ ∀ v ∈ s.values, p v) : ∀ s ∈ uniteL a b, q s.code ∧ ∀ v ∈ s.values, p v := by
  intro s hs
  unfold uniteL at hs
  rcases List.mem_append.1 hs with hs | hs
  · obtain ⟨u, hu, rfl⟩ := List.mem_map.1 hs
    refine ⟨(ha u hu).1, fun v hv => ?_⟩
    rcases List.mem_append.1 hv with hv | hv
    · exact (ha u hu).2 v hv
    · obtain ⟨t, ht, hvt⟩ := vals_mem hv
      exact (hb t ht).2 v hvt
  · exact hb s (List.mem_filter.1 hs).1
end Sg
namespace Sg
open Go
end Sg
namespace Go.Proofs.YtkmimjngmfdpmaaGreatDoor
open Go Go.RowKit

set_option maxRecDepth 100000 in
set_option maxHeartbeats 2000000 in
theorem gIndex1_any (s : Sg.Sign) (A : Option Addr) (n cp : Nat) (c : ByteArray) (cb : Nat) (w : World) (hcb : cb < w.heap.size) (h0 : w.cell? ⟨cb, 0, none⟩ = some (.string c)) : Calls Tryz.prog 102 #[.agg #[.string s.code, .int .i64 s.wide, .int .i64 s.high, .bool s.even, .slice A n cp], .pointer (some ⟨cb, 0, none⟩)] w (RetBB (Sg.codeIs c s) w) := by
  have HB : Hid (Below w.heap.size w (w.alloc (.cells #[.string s.code, .int .i64 s.wide, .int .i64 s.high, .bool s.even, .slice A n cp] 67))) := Lib.hid ((Below.refl _ _).alloc (Nat.le_refl _) _)
  by_cases h : s.code = c
  · have HV : Hid (Sg.codeIs c s = true) := Lib.hid (by unfold Sg.codeIs; simp [h])
    subst h
    go_enter Tryz.func102, Tryz.ntmps102
    go_wp2_with fail
    go_ret
    exact ⟨ret_bool (by rw [HV.out]; try simp), HB.out⟩
  · have HV : Hid (Sg.codeIs c s = false) := Lib.hid (by unfold Sg.codeIs; simp [h])
    have ht : (s.code.toList == c.toList) = false := Lx.toList_ne h
    clear h
    go_enter Tryz.func102, Tryz.ntmps102
    go_wp2_with fail
    go_ret
    exact ⟨ret_bool (by rw [HV.out]; try simp), HB.out⟩
set_option maxRecDepth 100000 in
set_option maxHeartbeats 2000000 in
theorem indexSign_any (c : ByteArray) (cb : Nat) (v : Value) (l : List Sg.Sign) (w : World) (hg : RdG KSign w (· < w.heap.size) v l) (hcb : cb < w.heap.size) (h0 : w.cell? ⟨cb, 0, none⟩ = some (.string c)) :
    Calls Tryz.prog 101 #[v, .func (.func 102) #[] #[.pointer (some ⟨cb, 0, none⟩)]] w (RetIB (idxOf (Sg.codeIs c) l) w) := by
  have hn0 := hg.len
  obtain ⟨A0, c0, rfl⟩ := hg.form
  have HG0 := Lib.hid hg
  have HC := Lib.hid fun (W : World) (hW : Below w.heap.size w W) => (hW.cell (p := ⟨cb, 0, none⟩) hcb).trans h0
  clear hg h0
  go_enter Tryz.func101, Tryz.ntmps101
  go_wp2_with fail
  go_loopg [8] l.length (fun g i wr => ∃ k : Nat, k ≤ l.length ∧ g = l.length - k ∧ i = .int .i64 k ∧ Below w.heap.size w wr ∧ ∀ j z, j < k → l[j]? = some z → Sg.codeIs c z = false)
  case atStart => exact ⟨0, Nat.zero_le _, rfl, rfl, Below.refl _ _, fun j _ hj => absurd hj (Nat.not_lt_zero j)⟩
  case round =>
    obtain ⟨k, hk, rfl, rfl, hbel, hno⟩ := hrel
    have HB := Lib.hid hbel
    have HN := Lib.hid hno
    have hszr := hbel.size
    clear hbel hno
    by_cases hlt : k < l.length
    · obtain ⟨b, off, rfl, hb, hcell⟩ := HG0.out.five (by omega)
      obtain ⟨s, hs⟩ : ∃ s, l[k]? = some s := ⟨_, List.getElem?_eq_getElem hlt⟩
      obtain ⟨uv, hrd, g0, g1, g2, g3, g4⟩ := hcell k s hs
      have f0 := (HB.out.cell (p := ⟨b, off + k * 5, none⟩) hb).trans g0
      have f1 := (HB.out.cell (p := ⟨b, off + k * 5 + 1, none⟩) hb).trans g1
      have f2 := (HB.out.cell (p := ⟨b, off + k * 5 + 2, none⟩) hb).trans g2
      have f3 := (HB.out.cell (p := ⟨b, off + k * 5 + 3, none⟩) hb).trans g3
      have f4 := (HB.out.cell (p := ⟨b, off + k * 5 + 4, none⟩) hb).trans g4
      obtain ⟨A2, c2, rfl, hvc, hvm⟩ := rds_form hrd.rds
      have HF := Lib.hid (gIndex1_any s A2 s.values.length c2 c cb wr (by omega) (HC.out wr HB.out))
      have HE := Lib.hid hs
      have hkI : (0 : Int) ≤ (k : Int) := by omega
      have hkJ : (k : Int) < (l.length : Int) := by omega
      clear hs hcell g0 g1 g2 g3 g4 hrd
      go_wp2_with fail
      refine HF.out.mono ?_
      cases hp : Sg.codeIs c s
      · have HN2 : Hid (∀ j z, j < k + 1 → l[j]? = some z → Sg.codeIs c z = false) := Lib.hid (fun j z hj hz => by
          by_cases hjk : j = k
          · subst hjk; rw [HE.out] at hz; cases hz; exact hp
          · exact HN.out j z (by omega) hz)
        clear hp
        rintro e1 w1 ⟨rfl, hb1⟩
        have HB1 := Lib.hid hb1
        clear hb1
        go_wp2_with fail
        go_roundg (l.length - (k + 1))
        case measure => omega
        case rel => exact ⟨k + 1, by omega, rfl, by go_num, HB.out.trans (HB1.out.mono HB.out.size), HN2.out⟩
      · have HI := Lib.hid (idxOf_at HE.out hp HN.out)
        clear hp
        rintro e1 w1 ⟨rfl, hb1⟩
        have HB1 := Lib.hid hb1
        clear hb1
        go_wp2_with fail
        go_ret
        exact ⟨ret_int HI.out.symm, HB.out.trans (HB1.out.mono HB.out.size)⟩
    · have HI := Lib.hid (idxOf_none (p := Sg.codeIs c) (xs := l) fun j z hj hz => HN.out j z (by omega) hz)
      go_wp2_with fail
      go_ret
      exact ⟨ret_int HI.out.symm, HB.out⟩
set_option maxRecDepth 100000 in
set_option maxHeartbeats 2000000 in
theorem gIndex_any (v : Value) (l : Sg.SList) (c : ByteArray) (w : World) (hr : RdSL w w.heap.size v l) : Calls Tryz.prog 65 #[v, .string c] w (RetIB (idxOf (Sg.codeIs c) l.signs) w) := by
  obtain ⟨⟨u, rfl, hg⟩, hf⟩ := hr
  obtain ⟨A0, c0, rfl⟩ := hg.form
  obtain ⟨W1, hW1⟩ : ∃ W1, W1 = (w.alloc (.cells #[.int .i64 l.periods, .slice A0 l.signs.length c0] 24)).alloc (.cells #[.string c] 9) := ⟨_, rfl⟩
  have hb1 : Below w.heap.size w W1 := by rw [hW1]; exact ((Below.refl _ _).alloc (Nat.le_refl _) _).alloc (by simp) _
  have hX : W1.heap[w.heap.size]? = some (.cells #[.int .i64 l.periods, .slice A0 l.signs.length c0] 24 (0, 0)) := by rw [hW1]; exact start_fst w _ _
  have hY : W1.heap[w.heap.size + 1]? = some (.cells #[.string c] 9 (0, 0)) := by rw [hW1]; exact start_res' w _ _
  have hs1 : w.heap.size + 1 < W1.heap.size := (Array.getElem?_eq_some_iff.1 hY).1
  have x1 : W1.cell? ⟨w.heap.size, 1, none⟩ = some (.slice A0 l.signs.length c0) := by simp [World.cell?, hX]
  have HIS := Lib.hid (indexSign_any c (w.heap.size + 1) _ l.signs W1 (hg.keep fun b hb => ⟨by omega, hb1.block b hb⟩) hs1 (by simp [World.cell?, hY]))
  have HB1 := Lib.hid hb1
  have HW1 := Lib.hid hW1
  clear hg hf hW1 hb1 hX hY
  go_enter Tryz.func65, Tryz.ntmps65
  go_upto_region 1 with fail
  rw [← HW1.out]
  go_wp2_with fail
  refine HIS.out.mono ?_
  rintro e w2 ⟨rfl, hb2⟩
  have HB2 := Lib.hid (HB1.out.trans (hb2.mono (by omega)))
  clear hb2
  go_wp2_with fail
  go_ret
  exact ⟨rfl, HB2.out⟩
def Sg.findV (l : Sg.SList) (c : ByteArray) : Int × Int := if Sg.checkV l ≠ 0 then (0, Sg.checkV l) else if idxOf (Sg.codeIs c) l.signs < 0 then (0, 3) else (idxOf (Sg.codeIs c) l.signs, 0)
def RetIxE (q : Int × Int) (w : World) (e : Ending) (w' : World) : Prop := e = .returned (.tuple #[.int .i64 q.1, .int .i64 q.2]) ∧ Below w.heap.size w w'
theorem RetIxE.of {q : Int × Int} {a b : Int} {w w' : World} (hq : q = (a, b)) (hb : Below w.heap.size w w') : RetIxE q w (.returned (.tuple #[.int .i64 a, .int .i64 b])) w' := by subst hq; exact ⟨rfl, hb⟩
set_option maxRecDepth 100000 in
set_option maxHeartbeats 2000000 in
theorem r1Find_any (v : Value) (l : Sg.SList) (c : ByteArray) (w : World) (hr : RdSL w w.heap.size v l) : Calls Tryz.prog 25 #[v, .string c] w (RetIxE (Sg.findV l c) w) := by
  have HRL := Lib.hid hr
  obtain ⟨⟨u, rfl, hgl⟩, hf⟩ := hr
  obtain ⟨A0, c0, rfl⟩ := hgl.form
  obtain ⟨W1, hW1⟩ : ∃ W1, W1 = w.alloc (.cells #[.int .i64 l.periods, .slice A0 l.signs.length c0] 24) := ⟨_, rfl⟩
  have hb1 : Below w.heap.size w W1 := by rw [hW1]; exact (Below.refl _ _).alloc (Nat.le_refl _) _
  have hX : W1.heap[w.heap.size]? = some (.cells #[.int .i64 l.periods, .slice A0 l.signs.length c0] 24 (0, 0)) := by rw [hW1]; exact heap_alloc_new _ _
  have hs1 : w.heap.size < W1.heap.size := (Array.getElem?_eq_some_iff.1 hX).1
  have CX : Hid (∀ W, Below W1.heap.size W1 W → W.cell? ⟨w.heap.size, 0, none⟩ = some (.int .i64 l.periods) ∧ W.cell? ⟨w.heap.size, 1, none⟩ = some (.slice A0 l.signs.length c0)) := Lib.hid fun W hW => by
    have p := (hW.block _ hs1).trans hX
    exact ⟨by simp [World.cell?, p], by simp [World.cell?, p]⟩
  obtain ⟨x0, x1⟩ := CX.out W1 (Below.refl _ _)
  have HB1 := Lib.hid hb1
  have HW1 := Lib.hid hW1
  have HCK := Lib.hid (r1Check_any _ l W1 (HRL.out.on hb1))
  have HIX := Lib.hid fun (W : World) (hW : Below w.heap.size w W) => r1index_any _ l c W (HRL.out.on hW)
  obtain ⟨e1, he1⟩ : ∃ e1, e1 = Sg.checkV l := ⟨_, rfl⟩
  obtain ⟨ix, hix⟩ : ∃ ix, ix = idxOf (Sg.codeIs c) l.signs := ⟨_, rfl⟩
  have HV : Hid (Sg.findV l c = if e1 ≠ 0 then (0, e1) else if ix < 0 then (0, 3) else (ix, 0)) := Lib.hid (by rw [he1, hix]; rfl)
  rw [← he1] at HCK
  rw [← hix] at HIX
  clear hgl hf hW1 hb1 hX he1 hix
  go_enter Tryz.func25, Tryz.ntmps25
  go_upto_region 1 with fail
  rw [← HW1.out]
  go_wp2_with fail
  refine HCK.out.mono ?_
  rintro e w2 ⟨rfl, hb2⟩
  have HB2 := Lib.hid (HB1.out.trans (hb2.mono (by omega)))
  obtain ⟨x0, x1⟩ := CX.out w2 hb2
  clear hb2
  by_cases h0 : e1 = 0
  case neg =>
    have HN : Hid (Sg.findV l c = (0, e1)) := Lib.hid (by rw [HV.out, if_pos h0])
    go_wp2_with fail
    go_ret2
    exact RetIxE.of HN.out HB2.out
  subst h0
  go_wp2_with fail
  refine (HIX.out _ HB2.out).mono ?_
  rintro e w3 ⟨rfl, hb3⟩
  have HB3 := Lib.hid (HB2.out.trans (hb3.mono HB2.out.size))
  clear hb3
  by_cases h1 : ix < 0
  · have HN : Hid (Sg.findV l c = (0, 3)) := Lib.hid (by rw [HV.out, if_neg (by simp), if_pos h1])
    have h2 : ¬ 0 ≤ ix := by omega
    go_wp2_with fail
    go_ret2
    exact RetIxE.of HN.out HB3.out
  · have HN : Hid (Sg.findV l c = (ix, 0)) := Lib.hid (by rw [HV.out, if_neg (by simp), if_neg h1])
    have h2 : 0 ≤ ix := by omega
    go_wp2_with fail
    go_ret2
    exact RetIxE.of HN.out HB3.out
end Go.Proofs.YtkmimjngmfdpmaaGreatDoor
