/- signs.Restrict. Made by gen_grestrict.py. ostraconref01.Restrict. Made by gen_r1restrict.py. SignsTidies: the law's walk. Made by gen_sglaw12.py.; What a merged list says: plain law. ostraconlaw01.Large. Cut out of XSgVOwn by gen_sglaw13.py. SignsKept: the law's walk. Made by gen_sglaw13.py.; ostraconlaw01.find. -/
import Derived.Test.YtkmimjngmfdpmaaGreatDoorMpSgGTidy
import Derived.Test.YtkmimjngmfdpmaaGreatDoorMpSgOwnS
import Derived.Test.YtkmimjngmfdpmaaGreatDoorMpSgSame
import Derived.Test.YtkmimjngmfdpmaaGreatDoorMpShelfF
import Derived.Test.YtkmimjngmfdpmaaGreatDoorMpSgWorks
import Derived.Test.YtkmimjngmfdpmaaGreatDoorMpSgMergePlain
import Derived.Test.YtkmimjngmfdpmaaGreatDoorMpEqual
import Derived.Test.YtkmimjngmfdpmaaGreatDoorMpSgCopy
import Derived.Test.YtkmimjngmfdpmaaGreatDoorMpSgRCheck
namespace Go.Proofs.YtkmimjngmfdpmaaGreatDoor
open Go Go.RowKit

end Go.Proofs.YtkmimjngmfdpmaaGreatDoor
namespace Go.Proofs.YtkmimjngmfdpmaaGreatDoor
open Go Go.RowKit

end Go.Proofs.YtkmimjngmfdpmaaGreatDoor
namespace Go.Proofs.YtkmimjngmfdpmaaGreatDoor
open Go Go.RowKit
end Go.Proofs.YtkmimjngmfdpmaaGreatDoor
namespace Sg
open Go
instance (a b : Value) : Decidable (kle a b) := by unfold kle; infer_instance
def insK (x : Value) : List Value → List Value
  | [] => [x]
  | a :: l => if kle x a then x :: a :: l else a :: insK x l
theorem kle_total {x a : Value} (h : ¬ kle x a) : kle a x := by
  rcases k_cases x a with q | ⟨q, q'⟩ | q
  · rcases q with q | ⟨q, q'⟩
    · exact absurd (.inl q) h
    · exact absurd (.inr ⟨q, by omega⟩) h
  · exact absurd (.inr ⟨q, by omega⟩) h
  · rcases q with q | ⟨q, q'⟩
    · exact .inl q
    · exact .inr ⟨q, by omega⟩
theorem insK_perm (x : Value) : ∀ l : List Value, (insK x l).Perm (x :: l)
  | [] => List.Perm.refl _
  | a :: l => by
    unfold insK
    split
    · exact List.Perm.refl _
    · exact ((insK_perm x l).cons a).trans (List.Perm.swap x a l)
theorem insK_sorted (x : Value) : ∀ l : List Value, l.Pairwise kle → (insK x l).Pairwise kle
  | [], _ => by simp [insK]
  | a :: l, h => by
    have h' := List.pairwise_cons.1 h
    unfold insK
    split
    · rename_i q
      refine List.pairwise_cons.2 ⟨fun y hy => ?_, h⟩
      rcases List.mem_cons.1 hy with rfl | hy
      · exact q
      · exact kle_trans q (h'.1 y hy)
    · rename_i q
      refine List.pairwise_cons.2 ⟨fun y hy => ?_, insK_sorted x l h'.2⟩
      rcases List.mem_cons.1 ((insK_perm x l).mem_iff.1 hy) with rfl | hy
      · exact kle_total q
      · exact h'.1 y hy
theorem sorted_ex : ∀ L : List Value, ∃ S : List Value, S.Perm L ∧ S.Pairwise kle
  | [] => ⟨[], List.Perm.refl _, List.Pairwise.nil⟩
  | a :: L => by
    obtain ⟨S, h1, h2⟩ := sorted_ex L
    exact ⟨insK a S, (insK_perm a S).trans (h1.cons a), insK_sorted a S h2⟩
theorem mergeR_len : ∀ (r : List Value) (u : Value), (mergeR u r).length ≤ r.length + 1
  | [], _ => Nat.le_refl _
  | v :: r, u => by
    unfold mergeR
    split
    · have := mergeR_len r ⟨u.kind, u.text, u.lo, max u.hi v.hi⟩
      simp only [List.length_cons]; omega
    · have := mergeR_len r v
      simp only [List.length_cons]; omega
theorem tidied_len {L : List Value} (h : ∀ v ∈ L, v.lo ≤ v.hi) : (tidiedV L).length ≤ L.length := by
  obtain ⟨S, h1, h2⟩ := sorted_ex L
  rw [← tidy_law h h1 h2, ← h1.length_eq]
  cases S with
  | nil => exact Nat.le_refl _
  | cons u r => exact mergeR_len r u
theorem tidied_twice (L : List Value) : tidiedV (L ++ L) = tidiedV L := by
  obtain ⟨h1, h2⟩ := tidied_canon (L ++ L)
  obtain ⟨g1, g2⟩ := tidied_canon L
  refine canon_unique h1 g1 fun k t p => (h2 k t p).trans (Iff.trans ?_ (g2 k t p).symm)
  unfold Cov
  constructor
  · rintro ⟨v, hv, q⟩; exact ⟨v, by simpa using hv, q⟩
  · rintro ⟨v, hv, q⟩; exact ⟨v, by simp [hv], q⟩
theorem valid_le {l : SList} (h : checkV l = 0) {s : Sign} (hs : s ∈ l.signs) : s.values.length ≤ 12 ∧ ∀ v ∈ s.values, v.lo ≤ v.hi := by
  obtain ⟨i, hi⟩ := List.getElem?_of_mem hs
  obtain ⟨-, -, -, h4, h5⟩ := sign_parts ((check_sign h).2.2 i s hi)
  refine ⟨h4, fun v hv => ?_⟩
  obtain ⟨k, hk⟩ := List.getElem?_of_mem hv
  exact (value_at h5 hk).2.1.2.1
/-- a list merged with itself is tidy -/
theorem merge_self {a : SList} (h : checkV a = 0) : mergeE a a = 0 ∧ mergeL a a = tidyR a := by
  have U := uniq_of h
  have hcl : clashB a.signs a.signs = false := clash_not fun s hs t ht hc => by
    have : t = s := uniq_mem U ht hs hc
    subst this
    simp [oddS]
  have hM : mergedL a a = tidyL a := by
    unfold mergedL tidyL
    have hp : max a.periods a.periods = a.periods := by omega
    rw [hp]
    congr 1
    unfold uniteL
    have hf : (a.signs.filter fun t => !hasC a.signs t.code) = [] := by
      rw [List.filter_eq_nil_iff]
      intro t ht
      have := has_mem.2 ⟨t, ht, rfl⟩
      simp [this]
    rw [hf, List.append_nil, List.map_map]
    refine List.map_congr_left fun s hs => ?_
    show tidyS (joinS a.signs s) = tidyS s
    unfold joinS tidyS
    simp only
    rw [vals_one U hs, tidied_twice]
  have hmany : manyL (mergedL a a).signs = false := by
    rw [hM]
    unfold manyL tidyL
    have := (check_sign h).2.1
    rw [Bool.or_eq_false_iff]
    refine ⟨by simp; omega, ?_⟩
    rw [List.any_eq_false]
    intro s hs
    obtain ⟨u, hu, rfl⟩ := List.mem_map.1 hs
    obtain ⟨h1, h2⟩ := valid_le h hu
    have := tidied_len h2
    show ¬ decide (12 < (tidiedV u.values).length) = true
    simp; omega
  have hE : mergeE a a = 0 := by
    unfold mergeE
    rw [if_neg (by simp [h]), if_neg (by simp [h]), hcl, hmany]
    rfl
  refine ⟨hE, ?_⟩
  unfold mergeL tidyR
  rw [if_pos hE, if_pos h, hM]
/-- what is wanted: the values of one, and those of the other that are new -/
def wantK (w : List Value) (x : Value) : List Value := if w.any (sameN x) = true then w else w ++ [x]
def wantV (w l : List Value) : List Value := l.foldl wantK w
theorem same_iff {x y : Value} : sameN x y = true ↔ nmV x = nmV y := by
  unfold sameN nmV
  simp
theorem want_fact : ∀ (l w : List Value), (w.map nmV).Nodup → ((wantV w l).map nmV).Nodup ∧ ∀ x, x ∈ (wantV w l).map nmV ↔ x ∈ w.map nmV ∨ x ∈ l.map nmV
  | [], w, h => ⟨h, fun x => by simp [wantV]⟩
  | y :: l, w, h => by
    have e : wantV w (y :: l) = wantV (wantK w y) l := rfl
    rw [e]
    by_cases hy : w.any (sameN y) = true
    · have hk : wantK w y = w := by unfold wantK; rw [if_pos hy]
      rw [hk]
      obtain ⟨h1, h2⟩ := want_fact l w h
      refine ⟨h1, fun x => ?_⟩
      rw [h2 x, List.map_cons, List.mem_cons]
      constructor
      · rintro (q | q)
        · exact .inl q
        · exact .inr (.inr q)
      · rintro (q | q | q)
        · exact .inl q
        · subst q
          rw [List.any_eq_true] at hy
          obtain ⟨z, hz, e2⟩ := hy
          exact .inl (List.mem_map.2 ⟨z, hz, (same_iff.1 e2).symm⟩)
        · exact .inr q
    · have hk : wantK w y = w ++ [y] := by unfold wantK; rw [if_neg hy]
      rw [hk]
      have hnew : nmV y ∉ w.map nmV := fun q => by
        obtain ⟨z, hz, e2⟩ := List.mem_map.1 q
        exact hy (List.any_eq_true.2 ⟨z, hz, same_iff.2 e2.symm⟩)
      have hn : ((w ++ [y]).map nmV).Nodup := by
        rw [List.map_append, List.nodup_append]
        refine ⟨h, by simp, ?_⟩
        intro a ha b hb e2
        simp only [List.map_cons, List.map_nil, List.mem_singleton] at hb
        subst e2
        subst hb
        exact hnew ha
      obtain ⟨h1, h2⟩ := want_fact l (w ++ [y]) hn
      refine ⟨h1, fun x => ?_⟩
      rw [h2 x]
      simp only [List.map_append, List.map_cons, List.map_nil, List.mem_append, List.mem_cons, List.not_mem_nil, or_false]
      constructor
      · rintro ((q | q) | q)
        · exact .inl q
        · exact .inr (.inl q)
        · exact .inr (.inr q)
      · rintro (q | q | q)
        · exact .inl (.inl q)
        · exact .inl (.inr q)
        · exact .inr q
theorem vals_nodup {l : SList} (h : checkV l = 0) (c : ByteArray) (p : Int) : ((useL (valsAt l.signs c) p).map nmV).Nodup := by
  unfold valsAt
  cases hf : l.signs.find? (isC c) with
  | none => exact List.Pairwise.nil
  | some t =>
    obtain ⟨i, hi⟩ := List.getElem?_of_mem (List.mem_of_find?_eq_some hf)
    exact use_nodup (sign_parts ((check_sign h).2.2 i t hi)).2.2.2.2
/-- the values of a sign of a merged list -/
theorem merged_at {a b : SList} (ha : checkV a = 0) (hb : checkV b = 0) {s : Sign} (hs : s ∈ (mergedL a b).signs) :
    s.values = tidiedV (valsAt a.signs s.code ++ valsAt b.signs s.code) ∧ (hasC a.signs s.code = true ∨ hasC b.signs s.code = true) := by
  unfold mergedL at hs
  simp only [List.mem_map] at hs
  obtain ⟨u, hu, rfl⟩ := hs
  unfold uniteL at hu
  rcases List.mem_append.1 hu with hu | hu
  · obtain ⟨x, hx, rfl⟩ := List.mem_map.1 hu
    refine ⟨?_, .inl (has_mem.2 ⟨x, hx, rfl⟩)⟩
    show tidiedV (x.values ++ valsAt b.signs x.code) = tidiedV (valsAt a.signs x.code ++ valsAt b.signs x.code)
    rw [vals_one (uniq_of ha) hx]
  · obtain ⟨h1, h2⟩ := List.mem_filter.1 hu
    have hn : hasC a.signs u.code = false := by simpa using h2
    refine ⟨?_, .inr (has_mem.2 ⟨u, h1, rfl⟩)⟩
    show tidiedV u.values = tidiedV (valsAt a.signs u.code ++ valsAt b.signs u.code)
    rw [vals_not hn, vals_one (uniq_of hb) h1]
    rfl
theorem merged_law {a b : SList} (ha : checkV a = 0) (hb : checkV b = 0) {s : Sign} (hs : s ∈ (mergedL a b).signs) (p : Int) :
    alikeB (wantV (useL (valsAt a.signs s.code) p) (useL (valsAt b.signs s.code) p)) (useL s.values p) = true := by
  obtain ⟨h1, h2⟩ := want_fact (useL (valsAt b.signs s.code) p) _ (vals_nodup ha s.code p)
  have hv := (merged_at ha hb hs).1
  obtain ⟨c1, c2⟩ := tidied_canon (valsAt a.signs s.code ++ valsAt b.signs s.code)
  rw [hv]
  refine alike_of h1 (use_canon c1) fun x => ?_
  rw [h2 x, names_use, names_use, names_use, c2]
  unfold Cov
  constructor
  · rintro (⟨v, hv, q⟩ | ⟨v, hv, q⟩)
    · exact ⟨v, by simp [hv], q⟩
    · exact ⟨v, by simp [hv], q⟩
  · rintro ⟨v, hv, q⟩
    rcases List.mem_append.1 hv with hv | hv
    · exact .inl ⟨v, hv, q⟩
    · exact .inr ⟨v, hv, q⟩
/-- the first with a name, asq a row -/
def findN (w : List Value) (x : Value) : List Value := match w.find? (sameN x) with
  | some y => [y]
  | none => []
theorem alike_find (w : List Value) (x : Value) : alikeB [x] (findN w x) = w.any (sameN x) := by
  unfold findN
  cases hf : w.find? (sameN x) with
  | none =>
    rw [List.find?_eq_none] at hf
    have : w.any (sameN x) = false := by rw [List.any_eq_false]; exact hf
    rw [this]
    rfl
  | some y =>
    have h1 := List.find?_some hf
    have h2 := List.mem_of_find?_eq_some hf
    have : w.any (sameN x) = true := List.any_eq_true.2 ⟨y, h2, h1⟩
    rw [this]
    simp [alikeB, h1]
end Sg
namespace Go.Proofs.YtkmimjngmfdpmaaGreatDoor
open Go Go.RowKit

def Sg.largeV (l : Sg.SList) : Bool := Sg.bigV l || decide (30 < l.signs.length)
set_option maxRecDepth 100000 in
set_option maxHeartbeats 4000000 in
theorem l1Large_any (v : Value) (l : Sg.SList) (w : World) (hr : RdSL w w.heap.size v l) : Calls Tryz.prog 41 #[v] w (RetBB (Sg.largeV l) w) := by
  have HRL := Lib.hid fun (W : World) (hW : Below w.heap.size w W) => hr.on hW
  obtain ⟨⟨u, rfl, hgl⟩, hf⟩ := hr
  obtain ⟨A0, c0, rfl⟩ := hgl.form
  obtain ⟨W1, hW1⟩ : ∃ W1, W1 = w.alloc (.cells #[.int .i64 l.periods, .slice A0 l.signs.length c0] 24) := ⟨_, rfl⟩
  have hb1 : Below w.heap.size w W1 := by rw [hW1]; exact (Below.refl _ _).alloc (Nat.le_refl _) _
  have hX : W1.heap[w.heap.size]? = some (.cells #[.int .i64 l.periods, .slice A0 l.signs.length c0] 24 (0, 0)) := by rw [hW1]; exact heap_alloc_new _ _
  have hs1 : w.heap.size < W1.heap.size := (Array.getElem?_eq_some_iff.1 hX).1
  have CX : Hid (∀ W, Below W1.heap.size W1 W → W.cell? ⟨w.heap.size, 0, none⟩ = some (.int .i64 l.periods) ∧ W.cell? ⟨w.heap.size, 1, none⟩ = some (.slice A0 l.signs.length c0)) := Lib.hid fun W hW => by
    have p := (hW.block _ hs1).trans hX
    exact ⟨by simp [World.cell?, p], by simp [World.cell?, p]⟩
  obtain ⟨x0, x1⟩ := CX.out W1 (Below.refl _ _)
  have HB1 := Lib.hid hb1
  have HW1 := Lib.hid hW1
  have HBG := Lib.hid (l1Big_any _ l W1 (HRL.out W1 hb1))
  obtain ⟨bg, hbg⟩ : ∃ bg, bg = Sg.bigV l := ⟨_, rfl⟩
  have HLV : Hid (Sg.largeV l = (bg || decide (30 < l.signs.length))) := Lib.hid (by rw [hbg]; rfl)
  rw [← hbg] at HBG
  clear hgl hf hW1 hb1 hX hbg
  go_enter Tryz.func41, Tryz.ntmps41
  go_upto_region 1 with fail
  rw [← HW1.out]
  go_wp2_with fail
  refine HBG.out.mono ?_
  rintro e w2 ⟨rfl, hb2⟩
  have HB2 := Lib.hid (HB1.out.trans (hb2.mono (by omega)))
  have H2 := Lib.hid hb2
  clear hb2 x0 x1
  obtain ⟨x0, x1⟩ := CX.out w2 H2.out
  cases bg
  case true =>
    have HV : Hid (Sg.largeV l = true) := Lib.hid (by rw [HLV.out]; rfl)
    go_wp2_with fail
    go_ret
    exact ⟨ret_bool HV.out.symm, HB2.out⟩
  by_cases h30 : 30 < l.signs.length
  · have HV : Hid (Sg.largeV l = true) := Lib.hid (by rw [HLV.out, decide_eq_true h30]; rfl)
    have i1 : (30 : Int) < (l.signs.length : Int) := by omega
    clear h30
    go_wp2_with fail
    go_ret
    exact ⟨ret_bool HV.out.symm, HB2.out⟩
  · have HV : Hid (Sg.largeV l = false) := Lib.hid (by rw [HLV.out, decide_eq_false h30]; rfl)
    have i1 : decide ((30 : Int) < (l.signs.length : Int)) = false := decide_eq_false (by omega)
    clear h30
    go_wp2_with fail
    go_ret
    exact ⟨ret_bool HV.out.symm, HB2.out⟩
end Go.Proofs.YtkmimjngmfdpmaaGreatDoor
namespace Go.Proofs.YtkmimjngmfdpmaaGreatDoor
open Go Go.RowKit
end Go.Proofs.YtkmimjngmfdpmaaGreatDoor
namespace Go.Proofs.YtkmimjngmfdpmaaGreatDoor
open Go Go.RowKit

theorem rds_one {w : World} {B b off n c k : Nat} {xs : List Sg.Value} {x : Sg.Value} (h : RdS w B 4 encValue (.slice (some ⟨b, off, none⟩) n c) xs) (hx : xs[k]? = some x) : RdS w B 4 encValue (.slice (some ⟨b, off + k * 4, none⟩) 1 (c - k)) [x] := by
  obtain ⟨A, c', e, hl, hc, hh⟩ := h
  injection e with e1 e2 e3
  subst e1
  subst e3
  have hk := (List.getElem?_eq_some_iff.1 hx).1
  obtain ⟨b', off', e', hb, hcell⟩ := hh (by omega)
  injection e' with e'
  injection e' with e4 e5
  subst e4
  subst e5
  refine ⟨_, c - k, rfl, by simp; omega, by omega, fun _ => ⟨b, off + k * 4, rfl, hb, fun i a ha j u hj => ?_⟩⟩
  cases i with
  | succ i => simp at ha
  | zero =>
    simp at ha
    subst ha
    have := hcell k _ hx j u hj
    rw [Nat.zero_mul, Nat.add_zero]
    exact this
theorem Sg.findN_at {xs : List Sg.Value} {x z : Sg.Value} {k : Nat} (hz : xs[k]? = some z) (hp : Sg.sameN x z = true) (hb : ∀ (j : Nat) (y : Sg.Value), j < k → xs[j]? = some y → Sg.sameN x y = false) : Sg.findN xs x = [z] := by
  have hk := (List.getElem?_eq_some_iff.1 hz).1
  have e : xs.find? (Sg.sameN x) = some z := by
    rw [List.find?_eq_some_iff_getElem]
    refine ⟨hp, k, hk, (List.getElem?_eq_some_iff.1 hz).2, fun j hj => ?_⟩
    rw [hb j _ hj (List.getElem?_eq_getElem (by omega))]
    rfl
  unfold Sg.findN
  rw [e]
theorem Sg.findN_not {xs : List Sg.Value} {x : Sg.Value} (hb : ∀ (j : Nat) (y : Sg.Value), j < xs.length → xs[j]? = some y → Sg.sameN x y = false) : Sg.findN xs x = [] := by
  have e : xs.find? (Sg.sameN x) = none := by
    rw [List.find?_eq_none]
    intro y hy
    obtain ⟨j, hj⟩ := List.getElem?_of_mem hy
    rw [hb j y (List.getElem?_eq_some_iff.1 hj).1 hj]
    simp
  unfold Sg.findN
  rw [e]
theorem Sg.same_off {x z : Sg.Value} (h : ¬ (z.kind = x.kind ∧ z.text = x.text)) : Sg.sameN x z = false := by
  unfold Sg.sameN
  rw [Bool.and_eq_false_iff, decide_eq_false_iff_not, decide_eq_false_iff_not]
  by_cases h1 : z.kind = x.kind
  · exact .inr fun e => h ⟨h1, e.symm⟩
  · exact .inl fun e => h1 e.symm
def RetFind (q : List Sg.Value) (w : World) (e : Ending) (w' : World) : Prop := ∃ y, e = .returned y ∧ RdS w' w'.heap.size 4 encValue y q ∧ Below w.heap.size w w'
set_option maxRecDepth 100000 in
set_option maxHeartbeats 4000000 in
theorem l1find_any (v : Value) (xs : List Sg.Value) (x : Sg.Value) (w : World) (hx : RdS w w.heap.size 4 encValue v xs) (hlen : xs.length ≤ 1000) : Calls Tryz.prog 50 #[v, .agg #[.int .i64 x.kind, .string x.text, .int .i64 x.lo, .int .i64 x.hi]] w (RetFind (Sg.findN xs x) w) := by
  obtain ⟨A, c, rfl, hlc, hc63⟩ := rds_form hx
  have HX := Lib.hid hx
  obtain ⟨W1, hW1⟩ : ∃ W1, W1 = w.alloc (.cells #[.int .i64 x.kind, .string x.text, .int .i64 x.lo, .int .i64 x.hi] 60) := ⟨_, rfl⟩
  have hb1 : Below w.heap.size w W1 := by rw [hW1]; exact (Below.refl _ _).alloc (Nat.le_refl _) _
  have hX : W1.heap[w.heap.size]? = some (.cells #[.int .i64 x.kind, .string x.text, .int .i64 x.lo, .int .i64 x.hi] 60 (0, 0)) := by rw [hW1]; exact heap_alloc_new _ _
  have hs1 : w.heap.size < W1.heap.size := (Array.getElem?_eq_some_iff.1 hX).1
  have CX : Hid (∀ W, Below W1.heap.size W1 W → W.cell? ⟨w.heap.size, 0, none⟩ = some (.int .i64 x.kind) ∧ W.cell? ⟨w.heap.size, 1, none⟩ = some (.string x.text)) := Lib.hid fun W hW => by
    have p := (hW.block _ hs1).trans hX
    exact ⟨by simp [World.cell?, p], by simp [World.cell?, p]⟩
  have HB1 := Lib.hid hb1
  have HW1 := Lib.hid hW1
  clear hx hW1 hb1 hX
  go_enter Tryz.func50, Tryz.ntmps50
  go_upto_region 1 with fail
  rw [← HW1.out]
  go_wp2_with fail
  go_loopg [5] xs.length (fun g i wr => ∃ k : Nat, k ≤ xs.length ∧ g = xs.length - k ∧ i = .int .i64 (k : Nat) ∧ Below W1.heap.size W1 wr ∧ ∀ (j : Nat) (y : Sg.Value), j < k → xs[j]? = some y → Sg.sameN x y = false)
  case atStart => exact ⟨0, Nat.zero_le _, rfl, rfl, Below.refl _ _, fun j y hj => absurd hj (by omega)⟩
  case round =>
    obtain ⟨k, hk, rfl, rfl, hbel, hno⟩ := hrel
    have HNO := Lib.hid hno
    have HBE := Lib.hid hbel
    have HBW : Hid (Below w.heap.size w wr) := Lib.hid (HB1.out.trans (hbel.mono (by omega)))
    obtain ⟨x0, x1⟩ := CX.out wr hbel
    clear hno hbel
    by_cases hlt : k < xs.length
    · obtain ⟨z, hz⟩ : ∃ z, xs[k]? = some z := ⟨_, List.getElem?_eq_getElem hlt⟩
      obtain ⟨b, off, rfl, hb, hcell⟩ := (show RdX w (· < w.heap.size) 4 encValue (.slice A xs.length c) xs from HX.out).four (by omega)
      obtain ⟨g0, g1, -, -⟩ := hcell k z hz
      have f0 := (HBW.out.cell (p := ⟨b, off + k * 4, none⟩) hb).trans g0
      have f1 := (HBW.out.cell (p := ⟨b, off + k * 4 + 1, none⟩) hb).trans g1
      have HZ := Lib.hid hz
      have hkI : (0 : Int) ≤ (k : Int) := by omega
      have hkJ : (k : Int) < (xs.length : Int) := by omega
      clear hcell hz g0 g1
      by_cases h1 : z.kind = x.kind
      · rw [h1] at f0
        by_cases h2 : z.text = x.text
        · rw [h2] at f1
          have HF : Hid (Sg.findN xs x = [z]) := Lib.hid (Sg.findN_at HZ.out (by unfold Sg.sameN; simp [h1, h2]) HNO.out)
          have HR1 : Hid (∀ W, Below wr.heap.size wr W → RdS W W.heap.size 4 encValue (.slice (some ⟨b, off + k * 4, none⟩) 1 (c - k)) [z]) := Lib.hid fun W hW => ((rds_one HX.out HZ.out).below (HBW.out.trans (hW.mono HBW.out.size))).more (HBW.out.trans (hW.mono HBW.out.size)).size
          have hq1 : (k : Int) + 1 ≤ (c : Int) := by omega
          have hq0 : (0 : Int) ≤ (k : Int) + 1 := by omega
          have hck : ¬ c = k := by omega
          clear h1 h2
          go_wp2_with fail
          go_quiet (fail)
          go_wp2_with fail
          go_ret
          exact ⟨_, rfl, by rw [HF.out]; exact HR1.out _ (below_drewN (Below.refl _ _) _), below_drewN HBW.out _⟩
        · have n2 : (z.text.toList == x.text.toList) = false := Lx.toList_ne h2
          have HS : Hid (Sg.sameN x z = false) := Lib.hid (Sg.same_off fun q => h2 q.2)
          have HN2 : Hid (∀ (j : Nat) (y : Sg.Value), j < k + 1 → xs[j]? = some y → Sg.sameN x y = false) := Lib.hid fun j y hj hy => by
            by_cases hjk : j = k
            · subst hjk; rw [HZ.out] at hy; cases hy; exact HS.out
            · exact HNO.out j y (by omega) hy
          clear h1 h2
          go_wp2_with fail
          go_quiet (fail)
          go_wp2_with fail
          go_roundg (xs.length - (k + 1))
          case measure => omega
          case rel => exact ⟨k + 1, by omega, rfl, by go_num, below_drewN HBE.out _, HN2.out⟩
      · have n1 : (z.kind == x.kind) = false := by rw [beq_eq_false_iff_ne]; exact h1
        have HS : Hid (Sg.sameN x z = false) := Lib.hid (Sg.same_off fun q => h1 q.1)
        have HN2 : Hid (∀ (j : Nat) (y : Sg.Value), j < k + 1 → xs[j]? = some y → Sg.sameN x y = false) := Lib.hid fun j y hj hy => by
          by_cases hjk : j = k
          · subst hjk; rw [HZ.out] at hy; cases hy; exact HS.out
          · exact HNO.out j y (by omega) hy
        clear h1
        go_wp2_with fail
        go_quiet (fail)
        go_wp2_with fail
        go_roundg (xs.length - (k + 1))
        case measure => omega
        case rel => exact ⟨k + 1, by omega, rfl, by go_num, below_drewN HBE.out _, HN2.out⟩
    · have hkJ : ¬ (k : Int) < (xs.length : Int) := by omega
      have HF : Hid (Sg.findN xs x = []) := Lib.hid (Sg.findN_not fun j y hj hy => HNO.out j y (by omega) hy)
      go_wp2_with fail
      go_ret
      exact ⟨_, rfl, by rw [HF.out]; exact ⟨none, 0, rfl, by simp, by omega, fun h => absurd h (by simp)⟩, HBW.out⟩
end Go.Proofs.YtkmimjngmfdpmaaGreatDoor
