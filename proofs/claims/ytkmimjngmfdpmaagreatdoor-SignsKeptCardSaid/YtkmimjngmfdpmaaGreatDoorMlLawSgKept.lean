/- What a merged list says: plain law. ostraconlaw01.Large. Cut out of XSgVOwn by gen_sglaw13.py. SignsKept: the law's walk. Made by gen_sglaw13.py. -/
import Derived.Test.YtkmimjngmfdpmaaGreatDoorMlSgMergePlain
import Derived.Test.YtkmimjngmfdpmaaGreatDoorMgShelfF
import Derived.Test.YtkmimjngmfdpmaaGreatDoorMkSgGTidy
import Derived.Test.YtkmimjngmfdpmaaGreatDoorMkLawSgTidies
import Derived.Test.YtkmimjngmfdpmaaGreatDoorMhRDec
import Derived.Test.YtkmimjngmfdpmaaGreatDoorMgSgCopy
import Derived.Test.YtkmimjngmfdpmaaGreatDoorMgSgRCheck
import Derived.Test.YtkmimjngmfdpmaaGreatDoorMgSgWorks
namespace Sg
open Go
instance (a b : Value) : Decidable (kle a b) := by unfold kle; infer_instance
def insK (x : Value) : List Value → List Value
  | [] => [x]
  | a :: l => if kle x a then x :: a :: l else a :: insK x l
theorem kle_total {x a : Value} (h : ¬ kle x a) : kle a x := by
  rcases k_cases x a with q | ⟨q, q'⟩ | q
  · rcases q with q | ⟨q, q'⟩
    · exact absurd (.inl q) h
    · exact absurd (.inr ⟨q, by omega⟩) h
  · exact absurd (.inr ⟨q, by omega⟩) h
  · rcases q with q | ⟨q, q'⟩
    · exact .inl q
    · exact .inr ⟨q, by omega⟩
theorem insK_perm (x : Value) : ∀ l : List Value, (insK x l).Perm (x :: l)
  | [] => List.Perm.refl _
  | a :: l => by
    unfold insK
    split
    · exact List.Perm.refl _
    · exact ((insK_perm x l).cons a).trans (List.Perm.swap x a l)
theorem insK_sorted (x : Value) : ∀ l : List Value, l.Pairwise kle → (insK x l).Pairwise kle
  | [], _ => by simp [insK]
  | a :: l, h => by
    have h' := List.pairwise_cons.1 h
    unfold insK
    split
    · rename_i q
      refine List.pairwise_cons.2 ⟨fun y hy => ?_, h⟩
      rcases List.mem_cons.1 hy with rfl | hy
      · exact q
      · exact kle_trans q (h'.1 y hy)
    · rename_i q
      refine List.pairwise_cons.2 ⟨fun y hy => ?_, insK_sorted x l h'.2⟩
      rcases List.mem_cons.1 ((insK_perm x l).mem_iff.1 hy) with rfl | hy
      · exact kle_total q
      · exact h'.1 y hy
theorem sorted_ex : ∀ L : List Value, ∃ S : List Value, S.Perm L ∧ S.Pairwise kle
  | [] => ⟨[], List.Perm.refl _, List.Pairwise.nil⟩
  | a :: L => by
    obtain ⟨S, h1, h2⟩ := sorted_ex L
    exact ⟨insK a S, (insK_perm a S).trans (h1.cons a), insK_sorted a S h2⟩
theorem mergeR_len : ∀ (r : List Value) (u : Value), (mergeR u r).length ≤ r.length + 1
  | [], _ => Nat.le_refl _
  | v :: r, u => by
    unfold mergeR
    split
    · have := mergeR_len r ⟨u.kind, u.text, u.lo, max u.hi v.hi⟩
      simp only [List.length_cons]; omega
    · have := mergeR_len r v
      simp only [List.length_cons]; omega
theorem tidied_len {L : List Value} (h : ∀ v ∈ L, v.lo ≤ v.hi) : (tidiedV L).length ≤ L.length := by
  obtain ⟨S, h1, h2⟩ := sorted_ex L
  rw [← tidy_law h h1 h2, ← h1.length_eq]
  cases S with
  | nil => exact Nat.le_refl _
  | cons u r => exact mergeR_len r u
theorem tidied_twice (L : List Value) : tidiedV (L ++ L) = tidiedV L := by
  obtain ⟨h1, h2⟩ := tidied_canon (L ++ L)
  obtain ⟨g1, g2⟩ := tidied_canon L
  refine canon_unique h1 g1 fun k t p => (h2 k t p).trans (Iff.trans ?_ (g2 k t p).symm)
  unfold Cov
  constructor
  · rintro ⟨v, hv, q⟩; exact ⟨v, by simpa using hv, q⟩
  · rintro ⟨v, hv, q⟩; exact ⟨v, by simp [hv], q⟩
theorem valid_le {l : SList} (h : checkV l = 0) {s : Sign} (hs : s ∈ l.signs) : s.values.length ≤ 12 ∧ ∀ v ∈ s.values, v.lo ≤ v.hi := by
  obtain ⟨i, hi⟩ := List.getElem?_of_mem hs
  obtain ⟨-, -, -, h4, h5⟩ := sign_parts ((check_sign h).2.2 i s hi)
  refine ⟨h4, fun v hv => ?_⟩
  obtain ⟨k, hk⟩ := List.getElem?_of_mem hv
  exact (value_at h5 hk).2.1.2.1
/-- a list merged with itself is tidy -/
theorem merge_self {a : SList} (h : checkV a = 0) : mergeE a a = 0 ∧ mergeL a a = tidyR a := by
  have U := uniq_of h
  have hcl : clashB a.signs a.signs = false := clash_not fun s hs t ht hc => by
    have : t = s := uniq_mem U ht hs hc
    subst this
    simp [oddS]
  have hM : mergedL a a = tidyL a := by
    unfold mergedL tidyL
    have hp : max a.periods a.periods = a.periods := by omega
    rw [hp]
    congr 1
    unfold uniteL
    have hf : (a.signs.filter fun t => !hasC a.signs t.code) = [] := by
      rw [List.filter_eq_nil_iff]
      intro t ht
      have := has_mem.2 ⟨t, ht, rfl⟩
      simp [this]
    rw [hf, List.append_nil, List.map_map]
    refine List.map_congr_left fun s hs => ?_
    show tidyS (joinS a.signs s) = tidyS s
    unfold joinS tidyS
    simp only
    rw [vals_one U hs, tidied_twice]
  have hmany : manyL (mergedL a a).signs = false := by
    rw [hM]
    unfold manyL tidyL
    have := (check_sign h).2.1
    rw [Bool.or_eq_false_iff]
    refine ⟨by simp; omega, ?_⟩
    rw [List.any_eq_false]
    intro s hs
    obtain ⟨u, hu, rfl⟩ := List.mem_map.1 hs
    obtain ⟨h1, h2⟩ := valid_le h hu
    have := tidied_len h2
    show ¬ decide (12 < (tidiedV u.values).length) = true
    simp; omega
  have hE : mergeE a a = 0 := by
    unfold mergeE
    rw [if_neg (by simp [h]), if_neg (by simp [h]), hcl, hmany]
    rfl
  refine ⟨hE, ?_⟩
  unfold mergeL tidyR
  rw [if_pos hE, if_pos h, hM]
/-- what is wanted: the values of one, and those of the other that are new -/
def wantK (w : List Value) (x : Value) : List Value := if w.any (sameN x) = true then w else w ++ [x]
def wantV (w l : List Value) : List Value := l.foldl wantK w
theorem same_iff {x y : Value} : sameN x y = true ↔ nmV x = nmV y := by
  unfold sameN nmV
  simp
theorem want_fact : ∀ (l w : List Value), (w.map nmV).Nodup → ((wantV w l).map nmV).Nodup ∧ ∀ x, x ∈ (wantV w l).map nmV ↔ x ∈ w.map nmV ∨ x ∈ l.map nmV
  | [], w, h => ⟨h, fun x => by simp [wantV]⟩
  | y :: l, w, h => by
    have e : wantV w (y :: l) = wantV (wantK w y) l := rfl
    rw [e]
    by_cases hy : w.any (sameN y) = true
    · have hk : wantK w y = w := by unfold wantK; rw [if_pos hy]
      rw [hk]
      obtain ⟨h1, h2⟩ := want_fact l w h
      refine ⟨h1, fun x => ?_⟩
      rw [h2 x, List.map_cons, List.mem_cons]
      constructor
      · rintro (q | q)
        · exact .inl q
        · exact .inr (.inr q)
      · rintro (q | q | q)
        · exact .inl q
        · subst q
          rw [List.any_eq_true] at hy
          obtain ⟨z, hz, e2⟩ := hy
          exact .inl (List.mem_map.2 ⟨z, hz, (same_iff.1 e2).symm⟩)
        · exact .inr q
    · have hk : wantK w y = w ++ [y] := by unfold wantK; rw [if_neg hy]
      rw [hk]
      have hnew : nmV y ∉ w.map nmV := fun q => by
        obtain ⟨z, hz, e2⟩ := List.mem_map.1 q
        exact hy (List.any_eq_true.2 ⟨z, hz, same_iff.2 e2.symm⟩)
      have hn : ((w ++ [y]).map nmV).Nodup := by
        rw [List.map_append, List.nodup_append]
        refine ⟨h, by simp, ?_⟩
        intro a ha b hb e2
        simp only [List.map_cons, List.map_nil, List.mem_singleton] at hb
        subst e2
        subst hb
        exact hnew ha
      obtain ⟨h1, h2⟩ := want_fact l (w ++ [y]) hn
      refine ⟨h1, fun x => ?_⟩
      rw [h2 x]
      simp only [List.map_append, List.map_cons, List.map_nil, List.mem_append, List.mem_cons, List.not_mem_nil, or_false]
      constructor
      · rintro ((q | q) | q)
        · exact .inl q
        · exact .inr (.inl q)
        · exact .inr (.inr q)
      · rintro (q | q | q)
        · exact .inl (.inl q)
        · exact .inl (.inr q)
        · exact .inr q
theorem vals_nodup {l : SList} (h : checkV l = 0) (c : ByteArray) (p : Int) : ((useL (valsAt l.signs c) p).map nmV).Nodup := by
  unfold valsAt
  cases hf : l.signs.find? (isC c) with
  | none => exact List.Pairwise.nil
  | some t =>
    obtain ⟨i, hi⟩ := List.getElem?_of_mem (List.mem_of_find?_eq_some hf)
    exact use_nodup (sign_parts ((check_sign h).2.2 i t hi)).2.2.2.2
/-- the values of a sign of a merged list -/
theorem merged_at {a b : SList} (ha : checkV a = 0) (hb : checkV b = 0) {s : Sign} (hs : s ∈ (mergedL a b).signs) :
    s.values = tidiedV (valsAt a.signs s.code ++ valsAt b.signs s.code) ∧ (hasC a.signs s.code = true ∨ hasC b.signs s.code = true) := by
  unfold mergedL at hs
  simp only [List.mem_map] at hs
  obtain ⟨u, hu, rfl⟩ := hs
  unfold uniteL at hu
  rcases List.mem_append.1 hu with hu | hu
  · obtain ⟨x, hx, rfl⟩ := List.mem_map.1 hu
    refine ⟨?_, .inl (has_mem.2 ⟨x, hx, rfl⟩)⟩
    show tidiedV (x.values ++ valsAt b.signs x.code) = tidiedV (valsAt a.signs x.code ++ valsAt b.signs x.code)
    rw [vals_one (uniq_of ha) hx]
  · obtain ⟨h1, h2⟩ := List.mem_filter.1 hu
    have hn : hasC a.signs u.code = false := by simpa using h2
    refine ⟨?_, .inr (has_mem.2 ⟨u, h1, rfl⟩)⟩
    show tidiedV u.values = tidiedV (valsAt a.signs u.code ++ valsAt b.signs u.code)
    rw [vals_not hn, vals_one (uniq_of hb) h1]
    rfl
theorem merged_law {a b : SList} (ha : checkV a = 0) (hb : checkV b = 0) {s : Sign} (hs : s ∈ (mergedL a b).signs) (p : Int) :
    alikeB (wantV (useL (valsAt a.signs s.code) p) (useL (valsAt b.signs s.code) p)) (useL s.values p) = true := by
  obtain ⟨h1, h2⟩ := want_fact (useL (valsAt b.signs s.code) p) _ (vals_nodup ha s.code p)
  have hv := (merged_at ha hb hs).1
  obtain ⟨c1, c2⟩ := tidied_canon (valsAt a.signs s.code ++ valsAt b.signs s.code)
  rw [hv]
  refine alike_of h1 (use_canon c1) fun x => ?_
  rw [h2 x, names_use, names_use, names_use, c2]
  unfold Cov
  constructor
  · rintro (⟨v, hv, q⟩ | ⟨v, hv, q⟩)
    · exact ⟨v, by simp [hv], q⟩
    · exact ⟨v, by simp [hv], q⟩
  · rintro ⟨v, hv, q⟩
    rcases List.mem_append.1 hv with hv | hv
    · exact .inl ⟨v, hv, q⟩
    · exact .inr ⟨v, hv, q⟩
/-- the first with a name, asq a row -/
def findN (w : List Value) (x : Value) : List Value := match w.find? (sameN x) with
  | some y => [y]
  | none => []
theorem alike_find (w : List Value) (x : Value) : alikeB [x] (findN w x) = w.any (sameN x) := by
  unfold findN
  cases hf : w.find? (sameN x) with
  | none =>
    rw [List.find?_eq_none] at hf
    have : w.any (sameN x) = false := by rw [List.any_eq_false]; exact hf
    rw [this]
    rfl
  | some y =>
    have h1 := List.find?_some hf
    have h2 := List.mem_of_find?_eq_some hf
    have : w.any (sameN x) = true := List.any_eq_true.2 ⟨y, h2, h1⟩
    rw [this]
    simp [alikeB, h1]
end Sg
namespace Go.Proofs.YtkmimjngmfdpmaaGreatDoor
open Go Go.RowKit

def Sg.largeV (l : Sg.SList) : Bool := Sg.bigV l || decide (30 < l.signs.length)
set_option maxRecDepth 100000 in
set_option maxHeartbeats 4000000 in
theorem l1Large_any (v : Value) (l : Sg.SList) (w : World) (hr : RdSL w w.heap.size v l) : Calls Tryz.prog 41 #[v] w (RetBB (Sg.largeV l) w) := by
  have HRL := Lib.hid fun (W : World) (hW : Below w.heap.size w W) => hr.on hW
  obtain ⟨⟨u, rfl, hgl⟩, hf⟩ := hr
  obtain ⟨A0, c0, rfl⟩ := hgl.form
  obtain ⟨W1, hW1⟩ : ∃ W1, W1 = w.alloc (.cells #[.int .i64 l.periods, .slice A0 l.signs.length c0] 24) := ⟨_, rfl⟩
  have hb1 : Below w.heap.size w W1 := by rw [hW1]; exact (Below.refl _ _).alloc (Nat.le_refl _) _
  have hX : W1.heap[w.heap.size]? = some (.cells #[.int .i64 l.periods, .slice A0 l.signs.length c0] 24 (0, 0)) := by rw [hW1]; exact heap_alloc_new _ _
  have hs1 : w.heap.size < W1.heap.size := (Array.getElem?_eq_some_iff.1 hX).1
  have CX : Hid (∀ W, Below W1.heap.size W1 W → W.cell? ⟨w.heap.size, 0, none⟩ = some (.int .i64 l.periods) ∧ W.cell? ⟨w.heap.size, 1, none⟩ = some (.slice A0 l.signs.length c0)) := Lib.hid fun W hW => by
    have p := (hW.block _ hs1).trans hX
    exact ⟨by simp [World.cell?, p], by simp [World.cell?, p]⟩
  obtain ⟨x0, x1⟩ := CX.out W1 (Below.refl _ _)
  have HB1 := Lib.hid hb1
  have HW1 := Lib.hid hW1
  have HBG := Lib.hid (l1Big_any _ l W1 (HRL.out W1 hb1))
  obtain ⟨bg, hbg⟩ : ∃ bg, bg = Sg.bigV l := ⟨_, rfl⟩
  have HLV : Hid (Sg.largeV l = (bg || decide (30 < l.signs.length))) := Lib.hid (by rw [hbg]; rfl)
  rw [← hbg] at HBG
  clear hgl hf hW1 hb1 hX hbg
  go_enter Tryz.func41, Tryz.ntmps41
  go_upto_region 1 with fail
  rw [← HW1.out]
  go_wp2_with fail
  refine HBG.out.mono ?_
  rintro e w2 ⟨rfl, hb2⟩
  have HB2 := Lib.hid (HB1.out.trans (hb2.mono (by omega)))
  have H2 := Lib.hid hb2
  clear hb2 x0 x1
  obtain ⟨x0, x1⟩ := CX.out w2 H2.out
  cases bg
  case true =>
    have HV : Hid (Sg.largeV l = true) := Lib.hid (by rw [HLV.out]; rfl)
    go_wp2_with fail
    go_ret
    exact ⟨ret_bool HV.out.symm, HB2.out⟩
  by_cases h30 : 30 < l.signs.length
  · have HV : Hid (Sg.largeV l = true) := Lib.hid (by rw [HLV.out, decide_eq_true h30]; rfl)
    have i1 : (30 : Int) < (l.signs.length : Int) := by omega
    clear h30
    go_wp2_with fail
    go_ret
    exact ⟨ret_bool HV.out.symm, HB2.out⟩
  · have HV : Hid (Sg.largeV l = false) := Lib.hid (by rw [HLV.out, decide_eq_false h30]; rfl)
    have i1 : decide ((30 : Int) < (l.signs.length : Int)) = false := decide_eq_false (by omega)
    clear h30
    go_wp2_with fail
    go_ret
    exact ⟨ret_bool HV.out.symm, HB2.out⟩
end Go.Proofs.YtkmimjngmfdpmaaGreatDoor
namespace Go.Proofs.YtkmimjngmfdpmaaGreatDoor
open Go Go.RowKit
set_option maxRecDepth 100000 in
set_option maxHeartbeats 8000000 in
theorem SignsKept_any (v : Value) (l : Sg.SList) (per : Int) (w : World) (hr : RdSL w w.heap.size v l) (hg : Glob w) (ht : GTab w) : Calls Tryz.prog 13 #[v, .int .i64 per] w (RetBB true w) := by
  have HRL := Lib.hid fun (W : World) (hW : Below w.heap.size w W) => hr.on hW
  have HGT := Lib.hid fun (W : World) (hW : Below w.heap.size w W) => (⟨hg.below hW, ht.below hW⟩ : Glob W ∧ GTab W)
  have HWK := Lib.hid fun (W : World) (hW : Below w.heap.size w W) => works1_any W (hg.below hW) (ht.below hW)
  obtain ⟨⟨u, rfl, hgl⟩, hf⟩ := hr
  obtain ⟨A0, c0, rfl⟩ := hgl.form
  obtain ⟨W1, hW1⟩ : ∃ W1, W1 = w.alloc (.cells #[.int .i64 l.periods, .slice A0 l.signs.length c0] 24) := ⟨_, rfl⟩
  have hb1 : Below w.heap.size w W1 := by rw [hW1]; exact (Below.refl _ _).alloc (Nat.le_refl _) _
  have hX : W1.heap[w.heap.size]? = some (.cells #[.int .i64 l.periods, .slice A0 l.signs.length c0] 24 (0, 0)) := by rw [hW1]; exact heap_alloc_new _ _
  have hs1 : w.heap.size < W1.heap.size := (Array.getElem?_eq_some_iff.1 hX).1
  have CX : Hid (∀ W, Below W1.heap.size W1 W → W.cell? ⟨w.heap.size, 0, none⟩ = some (.int .i64 l.periods) ∧ W.cell? ⟨w.heap.size, 1, none⟩ = some (.slice A0 l.signs.length c0)) := Lib.hid fun W hW => by
    have p := (hW.block _ hs1).trans hX
    exact ⟨by simp [World.cell?, p], by simp [World.cell?, p]⟩
  obtain ⟨x0, x1⟩ := CX.out W1 (Below.refl _ _)
  have HB1 := Lib.hid hb1
  have HW1 := Lib.hid hW1
  have HBG := Lib.hid (l1Large_any _ l W1 (HRL.out W1 hb1))
  have HGL0 := Lib.hid fun (W : World) (hW : Below w.heap.size w W) => (hgl.keep (ok' := (· < W.heap.size)) fun b hlt => ⟨Nat.lt_of_lt_of_le hlt hW.size, hW.block b hlt⟩ : RdG KSign W (· < W.heap.size) (.slice A0 l.signs.length c0) l.signs)
  clear hgl hf hW1 hb1 hX hg ht
  have HCK := Lib.hid fun (W : World) (hW : Below w.heap.size w W) => r1Check_any _ l W (HRL.out W hW)
  obtain ⟨lg, hlg⟩ : ∃ lg, lg = Sg.largeV l := ⟨_, rfl⟩
  have HLG := Lib.hid hlg
  rw [← hlg] at HBG
  obtain ⟨ck, hck⟩ : ∃ ck, ck = Sg.checkV l := ⟨_, rfl⟩
  have HCE := Lib.hid hck
  rw [← hck] at HCK
  clear hlg hck
  go_enter Tryz.func13, Tryz.ntmps13
  go_upto_region 1 with fail
  rw [← HW1.out]
  go_wp2_with fail
  refine HBG.out.mono ?_
  rintro e w2 ⟨rfl, hb2⟩
  have HB2 := Lib.hid (HB1.out.trans (hb2.mono (by omega)))
  have H2 := Lib.hid hb2
  clear hb2 x0 x1
  obtain ⟨x0, x1⟩ := CX.out w2 H2.out
  cases lg
  case true =>
    go_wp2_with fail
    refine (HWK.out _ HB2.out).mono ?_
    rintro e wz ⟨rfl, hbz⟩
    have HBZ := Lib.hid (HB2.out.trans (hbz.mono HB2.out.size))
    clear hbz
    go_wp2_with fail
    go_ret
    exact ⟨rfl, HBZ.out⟩
  go_wp2_with fail
  refine (HCK.out w2 HB2.out).mono ?_
  rintro e w3 ⟨rfl, hb3⟩
  have HB3 := Lib.hid (HB2.out.trans (hb3.mono HB2.out.size))
  have H3 := Lib.hid (H2.out.trans (hb3.mono H2.out.size))
  clear hb3 x0 x1
  obtain ⟨x0, x1⟩ := CX.out w3 H3.out
  by_cases hc0 : ck = 0
  case neg =>
    go_wp2_with fail
    refine (HWK.out _ HB3.out).mono ?_
    rintro e wz ⟨rfl, hbz⟩
    have HBZ := Lib.hid (HB3.out.trans (hbz.mono HB3.out.size))
    clear hbz
    go_wp2_with fail
    go_ret
    exact ⟨rfl, HBZ.out⟩
  subst hc0
  have HCL : Hid (Sg.checkV l = 0) := Lib.hid HCE.out.symm
  by_cases hp1 : per < 1
  · go_wp2_with fail
    refine (HWK.out _ HB3.out).mono ?_
    rintro e wz ⟨rfl, hbz⟩
    have HBZ := Lib.hid (HB3.out.trans (hbz.mono HB3.out.size))
    clear hbz
    go_wp2_with fail
    go_ret
    exact ⟨rfl, HBZ.out⟩
  by_cases hp2 : l.periods < per
  · go_wp2_with fail
    refine (HWK.out _ HB3.out).mono ?_
    rintro e wz ⟨rfl, hbz⟩
    have HBZ := Lib.hid (HB3.out.trans (hbz.mono HB3.out.size))
    clear hbz
    go_wp2_with fail
    go_ret
    exact ⟨rfl, HBZ.out⟩
  have HPB : Hid (¬ Sg.perBad l per) := Lib.hid (by unfold Sg.perBad; omega)
  have hlg := HLG.out
  unfold Sg.largeV at hlg
  have hlg' := Bool.or_eq_false_iff.1 hlg.symm
  have HSM := Lib.hid (Sg.big_small hlg'.1).1
  have HVL : Hid (∀ s ∈ l.signs, s.values.length ≤ 12) := Lib.hid fun s hs => by
    obtain ⟨i, hi⟩ := List.getElem?_of_mem hs
    exact (Sg.sign_parts ((Sg.check_sign HCL.out).2.2 i s hi)).2.2.2.1
  obtain ⟨TS, hTS⟩ : ∃ T, T = l.signs.map Sg.tidyS := ⟨_, rfl⟩
  obtain ⟨OS, hOS⟩ : ∃ T, T = l.signs.map (Sg.oneS per) := ⟨_, rfl⟩
  have nT : TS.length = l.signs.length := by rw [hTS, List.length_map]
  have nO : OS.length = l.signs.length := by rw [hOS, List.length_map]
  have hT1 : Sg.tidyR l = ⟨l.periods, TS⟩ := by unfold Sg.tidyR; rw [if_pos HCL.out, hTS]; rfl
  have hE1 : Sg.oneE l per = 0 := by unfold Sg.oneE; rw [if_neg (by rw [HCL.out]; simp), if_neg HPB.out]
  have hO1 : Sg.oneR l per = ⟨1, OS⟩ := by unfold Sg.oneR; rw [if_pos hE1, hOS]; rfl
  have HGT1 := Lib.hid fun (y : Value) (W : World) (hy : RdSL W W.heap.size y l) => gTidy_any y l W hy
  have HGR1 := Lib.hid fun (y : Value) (W : World) (hy : RdSL W W.heap.size y l) => gRestrict_any y l per W hy
  rw [hT1, HCL.out] at HGT1
  rw [hO1, hE1] at HGR1
  have HTS := Lib.hid hTS
  have HOS := Lib.hid hOS
  have HNT := Lib.hid nT
  have HNO := Lib.hid nO
  clear hlg hlg' hTS hOS hT1 hE1 hO1 nT nO
  go_wp2_with fail
  refine (r1Copy_any _ l w3 (HRL.out w3 HB3.out) HSM.out).mono ?_
  rintro e w3c ⟨vca, rfl, hr3c, hb3c⟩
  have HR3c := Lib.hid hr3c
  have HCa := Lib.hid hb3c
  clear hr3c
  have HB3c := Lib.hid (HB3.out.trans (hb3c.mono HB3.out.size))
  have H3c := Lib.hid (H3.out.trans (hb3c.mono H3.out.size))
  clear hb3c x0 x1
  obtain ⟨x0, x1⟩ := CX.out w3c H3c.out
  go_wp2_with fail
  refine (HGT1.out _ w3c HR3c.out).mono ?_
  rintro e ua ⟨ya, rfl, hra, hua⟩
  have HBUa := Lib.hid (HB3c.out.trans (hua.mono HB3c.out.size))
  have HUa := Lib.hid (H3c.out.trans (hua.mono H3c.out.size))
  have HCUa := Lib.hid (HCa.out.trans (hua.mono HCa.out.size))
  obtain ⟨⟨za, hya, hga⟩, -⟩ := hra
  have hya : ya = .agg #[.int .i64 l.periods, za] := hya
  have hga : RdG KSign ua (· < ua.heap.size) za TS := hga
  subst hya
  obtain ⟨Aa, ca, rfl⟩ : ∃ A c, za = .slice A l.signs.length c := by
    obtain ⟨A, c, e⟩ := hga.form
    exact ⟨A, c, by rw [e]; exact congrArg (fun n => Value.slice A n c) HNT.out⟩
  obtain ⟨wa, hwa⟩ : ∃ W, W = ua.alloc (.cells #[.int .i64 l.periods, .slice Aa l.signs.length ca] 24) := ⟨_, rfl⟩
  obtain ⟨ba, hba⟩ : ∃ b, b = ua.heap.size := ⟨_, rfl⟩
  have hbwa : Below ua.heap.size ua wa := by rw [hwa]; exact (Below.refl _ _).alloc (Nat.le_refl _) _
  have hhwa : wa.heap[ba]? = some (.cells #[.int .i64 l.periods, .slice Aa l.signs.length ca] 24 (0, 0)) := by rw [hwa, hba]; exact heap_alloc_new _ _
  have CBa : Hid (∀ W, Below wa.heap.size wa W → W.cell? ⟨ba, 0, none⟩ = some (.int .i64 l.periods) ∧ W.cell? ⟨ba, 1, none⟩ = some (.slice Aa l.signs.length ca)) := Lib.hid fun W hW => by
    have p := (hW.block _ (Array.getElem?_eq_some_iff.1 hhwa).1).trans hhwa
    exact ⟨by simp [World.cell?, p], by simp [World.cell?, p]⟩
  have HGWa : Hid (RdG KSign wa (· < wa.heap.size) (.slice Aa l.signs.length ca) TS) := Lib.hid (hga.keep fun b hlt => ⟨Nat.lt_of_lt_of_le hlt hbwa.size, hbwa.block b hlt⟩)
  have HBa := Lib.hid (HBUa.out.trans (hbwa.mono HBUa.out.size))
  have Ha := Lib.hid (HUa.out.trans (hbwa.mono HUa.out.size))
  have HKa := Lib.hid (HCUa.out.trans (hbwa.mono HCUa.out.size))
  have HWWa := Lib.hid hwa
  have HBBa := Lib.hid hba
  clear hua hga hwa hba hbwa hhwa x0 x1
  go_upto_region 4 with fail
  rw [← HWWa.out, ← HBBa.out]
  obtain ⟨x0, x1⟩ := CX.out wa Ha.out
  go_wp2_with fail
  refine (r1Copy_any _ l wa (HRL.out wa HBa.out) HSM.out).mono ?_
  rintro e wac ⟨vcb, rfl, hrac, hbac⟩
  have HRac := Lib.hid hrac
  have HCb := Lib.hid hbac
  clear hrac
  have HBac := Lib.hid (HBa.out.trans (hbac.mono HBa.out.size))
  have Hac := Lib.hid (Ha.out.trans (hbac.mono Ha.out.size))
  clear hbac x0 x1
  obtain ⟨x0, x1⟩ := CX.out wac Hac.out
  go_wp2_with fail
  refine (HGR1.out _ wac HRac.out).mono ?_
  rintro e ub ⟨yb, rfl, hrb, hub⟩
  have HBUb := Lib.hid (HBac.out.trans (hub.mono HBac.out.size))
  have HUb := Lib.hid (Hac.out.trans (hub.mono Hac.out.size))
  have HCUb := Lib.hid (HCb.out.trans (hub.mono HCb.out.size))
  obtain ⟨⟨zb, hyb, hgb⟩, -⟩ := hrb
  have hyb : yb = .agg #[.int .i64 1, zb] := hyb
  have hgb : RdG KSign ub (· < ub.heap.size) zb OS := hgb
  subst hyb
  obtain ⟨Ab, cb, rfl⟩ : ∃ A c, zb = .slice A l.signs.length c := by
    obtain ⟨A, c, e⟩ := hgb.form
    exact ⟨A, c, by rw [e]; exact congrArg (fun n => Value.slice A n c) HNO.out⟩
  obtain ⟨wb, hwb⟩ : ∃ W, W = ub.alloc (.cells #[.int .i64 1, .slice Ab l.signs.length cb] 24) := ⟨_, rfl⟩
  obtain ⟨bb, hbb⟩ : ∃ b, b = ub.heap.size := ⟨_, rfl⟩
  have hbwb : Below ub.heap.size ub wb := by rw [hwb]; exact (Below.refl _ _).alloc (Nat.le_refl _) _
  have hhwb : wb.heap[bb]? = some (.cells #[.int .i64 1, .slice Ab l.signs.length cb] 24 (0, 0)) := by rw [hwb, hbb]; exact heap_alloc_new _ _
  have CBb : Hid (∀ W, Below wb.heap.size wb W → W.cell? ⟨bb, 0, none⟩ = some (.int .i64 1) ∧ W.cell? ⟨bb, 1, none⟩ = some (.slice Ab l.signs.length cb)) := Lib.hid fun W hW => by
    have p := (hW.block _ (Array.getElem?_eq_some_iff.1 hhwb).1).trans hhwb
    exact ⟨by simp [World.cell?, p], by simp [World.cell?, p]⟩
  have HGWb : Hid (RdG KSign wb (· < wb.heap.size) (.slice Ab l.signs.length cb) OS) := Lib.hid (hgb.keep fun b hlt => ⟨Nat.lt_of_lt_of_le hlt hbwb.size, hbwb.block b hlt⟩)
  have HBb := Lib.hid (HBUb.out.trans (hbwb.mono HBUb.out.size))
  have Hb := Lib.hid (HUb.out.trans (hbwb.mono HUb.out.size))
  have HKb := Lib.hid (HCUb.out.trans (hbwb.mono HCUb.out.size))
  have HWWb := Lib.hid hwb
  have HBBb := Lib.hid hbb
  clear hub hgb hwb hbb hbwb hhwb x0 x1
  go_upto_region 5 with fail
  rw [← HWWb.out, ← HBBb.out]
  obtain ⟨x0, x1⟩ := CX.out wb Hb.out
  obtain ⟨a0, a1⟩ := CBa.out wb HKb.out
  obtain ⟨b0, b1⟩ := CBb.out wb (Below.refl _ _)
  go_wp2_with fail
  clear x0 x1 a0 a1 b0 b1
  go_loopg [9] l.signs.length (fun g i wr => ∃ k : Nat, k ≤ l.signs.length ∧ g = l.signs.length - k ∧ i = .int .i64 (k : Nat) ∧ Below wb.heap.size wb wr)
  case atStart => exact ⟨0, Nat.zero_le _, rfl, rfl, Below.refl _ _⟩
  case round =>
    obtain ⟨k, hk, rfl, rfl, hbel⟩ := hrel
    have HBK := Lib.hid hbel
    have HXK := Lib.hid (Hb.out.trans (hbel.mono Hb.out.size))
    have HAK := Lib.hid (HKb.out.trans (hbel.mono HKb.out.size))
    have HWK' := Lib.hid (HBb.out.trans (hbel.mono HBb.out.size))
    clear hbel
    obtain ⟨x0, x1⟩ := CX.out wr HXK.out
    by_cases hlt : k < l.signs.length
    · obtain ⟨s, hs⟩ : ∃ s, l.signs[k]? = some s := ⟨_, List.getElem?_eq_getElem hlt⟩
      have ht : TS[k]? = some (Sg.tidyS s) := by rw [HTS.out, List.getElem?_map, hs]; rfl
      have ho : OS[k]? = some (Sg.oneS per s) := by rw [HOS.out, List.getElem?_map, hs]; rfl
      have hvl := HVL.out s (List.mem_of_getElem? hs)
      have hvs := (Sg.sign_parts ((Sg.check_sign HCL.out).2.2 k s hs)).2.2.2.2
      have HAL1 : Hid (Sg.alikeB (Sg.useV s per) (Sg.useV (Sg.tidyS s) per) = true) := Lib.hid (Sg.kept_tidy hvs)
      have HAL2 : Hid (Sg.alikeB (Sg.useV s per) (Sg.useV (Sg.oneS per s) 1) = true) := Lib.hid (Sg.kept_one _)
      have HL1 : Hid ((Sg.tidyS s).values.length ≤ 1000) := Lib.hid (Nat.le_trans (Sg.tidied_len fun v hv => by
        obtain ⟨ix, hix⟩ := List.getElem?_of_mem hv
        exact (Sg.value_at hvs hix).2.1.2.1) (by omega))
      have HL2 : Hid ((Sg.oneS per s).values.length ≤ 1000) := Lib.hid (by
        show ((Sg.useV s per).map Sg.oneV).length ≤ 1000
        rw [List.length_map]
        exact Nat.le_trans (List.length_filter_le _ _) (by omega))
      have hsl : l.signs.length ≤ 200 := (Sg.check_sign HCL.out).2.1
      have hkI : (k : Int) < (l.signs.length : Int) := by omega
      have hk0 : (0 : Int) ≤ (k : Int) := by omega
      have hlen : s.values.length ≤ 1000 := by omega
      -- the sign of l
      obtain ⟨sb, sof, rfl, hsb, hsc⟩ := (HGL0.out wr HWK'.out).five (by omega)
      obtain ⟨us, hrs, f0, f1, f2, f3, f4⟩ := hsc k s hs
      obtain ⟨As, cs, rfl, -, -⟩ := rds_form hrs.rds
      have HIU1 := Lib.hid (r1InUse_any s _ per wr hrs.rds hlen)
      clear hs hsc hrs hvs hvl
      go_wp2_with fail
      refine HIU1.out.mono ?_
      rintro e w4 ⟨v4, rfl, hown4, hb4⟩
      obtain ⟨A4, c4, rfl⟩ := own_form hown4
      have HO4 := Lib.hid hown4
      have HB4 := Lib.hid (HBK.out.trans (hb4.mono HBK.out.size))
      have HA4 := Lib.hid (HAK.out.trans (hb4.mono HAK.out.size))
      clear hown4 hb4 f0 f1 f2 f3 f4
      obtain ⟨a0, a1⟩ := CBa.out w4 HA4.out
      obtain ⟨tb, tof, rfl, htb, htc⟩ := HGWa.out.five (by rw [HNT.out]; omega)
      obtain ⟨ut, hrt, g0, g1, g2, g3, g4⟩ := htc k _ ht
      have f0 := (HA4.out.cell (p := ⟨tb, tof + k * 5, none⟩) htb).trans g0
      have f1 := (HA4.out.cell (p := ⟨tb, tof + k * 5 + 1, none⟩) htb).trans g1
      have f2 := (HA4.out.cell (p := ⟨tb, tof + k * 5 + 2, none⟩) htb).trans g2
      have f3 := (HA4.out.cell (p := ⟨tb, tof + k * 5 + 3, none⟩) htb).trans g3
      have f4 := (HA4.out.cell (p := ⟨tb, tof + k * 5 + 4, none⟩) htb).trans g4
      obtain ⟨At, ct, rfl, -, -⟩ := rds_form hrt.rds
      have HIU2 := Lib.hid (r1InUse_any (Sg.tidyS s) _ per w4 ((hrt.rds.below HA4.out).more HA4.out.size) HL1.out)
      obtain ⟨t', ht'⟩ : ∃ t', t' = Sg.tidyS s := ⟨_, rfl⟩
      rw [← ht'] at f0 f1 f2 f3 f4 HIU2
      rw [← ht'] at HAL1
      clear ht htc hrt g0 g1 g2 g3 g4 ht'
      go_wp2_with fail
      refine HIU2.out.mono ?_
      rintro e w5 ⟨v5, rfl, hown5, hb5⟩
      obtain ⟨A5, c5, rfl⟩ := own_form hown5
      have HA1 := Lib.hid (alike_any _ _ _ _ w5 (rds_of_own len_value (keep_own HO4.out hb5)) (rds_of_own len_value hown5))
      rw [HAL1.out] at HA1
      have HO5 := Lib.hid (keep_own HO4.out hb5)
      have HB5 := Lib.hid (HB4.out.trans (hb5.mono HB4.out.size))
      clear hown5 hb5 f0 f1 f2 f3 f4 a0 a1
      go_wp2_with fail
      refine HA1.out.mono ?_
      rintro e w6 ⟨rfl, hb6⟩
      have HO6 := Lib.hid (keep_own HO5.out hb6)
      have HB6 := Lib.hid (HB5.out.trans (hb6.mono HB5.out.size))
      clear hb6
      obtain ⟨b0, b1⟩ := CBb.out w6 HB6.out
      obtain ⟨ob, oof, rfl, hob, hoc⟩ := HGWb.out.five (by rw [HNO.out]; omega)
      obtain ⟨uo, hro, g0, g1, g2, g3, g4⟩ := hoc k _ ho
      have f0 := (HB6.out.cell (p := ⟨ob, oof + k * 5, none⟩) hob).trans g0
      have f1 := (HB6.out.cell (p := ⟨ob, oof + k * 5 + 1, none⟩) hob).trans g1
      have f2 := (HB6.out.cell (p := ⟨ob, oof + k * 5 + 2, none⟩) hob).trans g2
      have f3 := (HB6.out.cell (p := ⟨ob, oof + k * 5 + 3, none⟩) hob).trans g3
      have f4 := (HB6.out.cell (p := ⟨ob, oof + k * 5 + 4, none⟩) hob).trans g4
      obtain ⟨Ao, co, rfl, -, -⟩ := rds_form hro.rds
      have HIU3 := Lib.hid (r1InUse_any (Sg.oneS per s) _ 1 w6 ((hro.rds.below HB6.out).more HB6.out.size) HL2.out)
      obtain ⟨o', ho'⟩ : ∃ o', o' = Sg.oneS per s := ⟨_, rfl⟩
      rw [← ho'] at f0 f1 f2 f3 f4 HIU3
      rw [← ho'] at HAL2
      clear ho hoc hro g0 g1 g2 g3 g4 ho'
      go_wp2_with fail
      refine HIU3.out.mono ?_
      rintro e w7 ⟨v7, rfl, hown7, hb7⟩
      obtain ⟨A7, c7, rfl⟩ := own_form hown7
      have HA2 := Lib.hid (alike_any _ _ _ _ w7 (rds_of_own len_value (keep_own HO6.out hb7)) (rds_of_own len_value hown7))
      rw [HAL2.out] at HA2
      have HB7 := Lib.hid (HB6.out.trans (hb7.mono HB6.out.size))
      clear hown7 hb7 f0 f1 f2 f3 f4 b0 b1
      go_wp2_with fail
      refine HA2.out.mono ?_
      rintro e w8 ⟨rfl, hb8⟩
      have HB8 := Lib.hid (HB7.out.trans (hb8.mono HB7.out.size))
      clear hb8
      go_wp2_with fail
      go_roundg (l.signs.length - (k + 1))
      case measure => omega
      case rel => exact ⟨k + 1, by omega, rfl, by go_num, HB8.out⟩
    · have hkI : ¬ (k : Int) < (l.signs.length : Int) := by omega
      go_wp2_with fail
      refine (HWK.out _ HWK'.out).mono ?_
      rintro e wz ⟨rfl, hbz⟩
      have HBZ := Lib.hid (HWK'.out.trans (hbz.mono HWK'.out.size))
      clear hbz
      go_wp2_with fail
      go_ret
      exact ⟨rfl, HBZ.out⟩
end Go.Proofs.YtkmimjngmfdpmaaGreatDoor
