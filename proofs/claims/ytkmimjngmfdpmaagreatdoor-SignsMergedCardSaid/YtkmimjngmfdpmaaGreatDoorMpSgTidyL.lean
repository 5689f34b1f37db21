/- signs.tidy. Made by gen_sgtidy.py. -/
import Derived.Test.YtkmimjngmfdpmaaGreatDoorMpSgSort
import Derived.Test.YtkmimjngmfdpmaaGreatDoorMpSgMeet
import Derived.Test.YtkmimjngmfdpmaaGreatDoorMpSgSign
import Derived.Test.YtkmimjngmfdpmaaGreatDoorMpTrimPlain
namespace Go.Proofs.YtkmimjngmfdpmaaGreatDoor
open Go Go.RowKit

/-- one value more on merged values -/
def Sg.mergeS (q : List Sg.Value) (v : Sg.Value) : List Sg.Value := match q.getLast? with
  | some u => if Sg.neq u v ∧ v.lo ≤ u.hi + 1 then q.dropLast ++ [⟨u.kind, u.text, u.lo, max u.hi v.hi⟩] else q ++ [v]
  | none => [v]
theorem Sg.mergeS_cons {u : Sg.Value} {q : List Sg.Value} (v : Sg.Value) (h : q ≠ []) : Sg.mergeS (u :: q) v = u :: Sg.mergeS q v := by
  unfold Sg.mergeS
  have e : (u :: q).getLast? = q.getLast? := by
    cases q with
    | nil => exact absurd rfl h
    | cons a r => rw [List.getLast?_cons_cons]
  rw [e]
  cases hq : q.getLast? with
  | none => rw [List.getLast?_eq_none_iff] at hq; exact absurd hq h
  | some x =>
    simp only
    split
    · rw [List.dropLast_cons_of_ne_nil h, List.cons_append]
    · rfl
theorem Sg.mergeR_ne (u : Sg.Value) (r : List Sg.Value) : Sg.mergeR u r ≠ [] := by
  induction r generalizing u with
  | nil => simp [Sg.mergeR]
  | cons v r ih =>
    unfold Sg.mergeR
    split
    · exact ih _
    · simp
theorem Sg.mergeR_snoc : ∀ (r : List Sg.Value) (u v : Sg.Value), Sg.mergeR u (r ++ [v]) = Sg.mergeS (Sg.mergeR u r) v
  | [], u, v => by
    simp only [List.nil_append, Sg.mergeR, Sg.mergeS, List.getLast?_singleton]
    split <;> rfl
  | x :: r, u, v => by
    rw [List.cons_append, Sg.mergeR, Sg.mergeR]
    split
    · exact Sg.mergeR_snoc r _ v
    · rw [Sg.mergeR_snoc r x v, Sg.mergeS_cons v (Sg.mergeR_ne x r)]
theorem Sg.mergeV_snoc (l : List Sg.Value) (v : Sg.Value) : Sg.mergeV (l ++ [v]) = Sg.mergeS (Sg.mergeV l) v := by
  cases l with
  | nil => rfl
  | cons u r => exact Sg.mergeR_snoc r u v
theorem Sg.mergeV_next {S : List Sg.Value} {k : Nat} {y : Sg.Value} (h : S[k]? = some y) : Sg.mergeV (S.take (k + 1)) = Sg.mergeS (Sg.mergeV (S.take k)) y := by
  rw [List.take_add_one, h]
  exact Sg.mergeV_snoc _ _
theorem Sg.mergeS_none (v : Sg.Value) : Sg.mergeS [] v = [v] := rfl
theorem Sg.mergeS_app {q : List Sg.Value} {u v : Sg.Value} (h : ¬ (Sg.neq u v ∧ v.lo ≤ u.hi + 1)) : Sg.mergeS (q ++ [u]) v = q ++ [u] ++ [v] := by
  unfold Sg.mergeS
  rw [List.getLast?_concat]
  simp only
  rw [if_neg h]
theorem Sg.mergeS_join {q : List Sg.Value} {u v : Sg.Value} (h : Sg.neq u v ∧ v.lo ≤ u.hi + 1) : Sg.mergeS (q ++ [u]) v = q ++ [⟨u.kind, u.text, u.lo, max u.hi v.hi⟩] := by
  unfold Sg.mergeS
  rw [List.getLast?_concat]
  simp only
  rw [if_pos h, List.dropLast_concat]
theorem Sg.mergeS_fine {q : List Sg.Value} {v : Sg.Value} (hq : ∀ x ∈ q, 0 ≤ x.hi ∧ x.hi ≤ 100) (hv : 0 ≤ v.hi ∧ v.hi ≤ 100) : ∀ x ∈ Sg.mergeS q v, 0 ≤ x.hi ∧ x.hi ≤ 100 := by
  intro x hx
  rcases Lx.list_rev_ind (P := fun q => q = [] ∨ ∃ r u, q = r ++ [u]) (.inl rfl) (fun l a _ => .inr ⟨l, a, rfl⟩) q with rfl | ⟨r, u, rfl⟩
  · rw [Sg.mergeS_none, List.mem_singleton] at hx
    subst hx; exact hv
  · by_cases h : Sg.neq u v ∧ v.lo ≤ u.hi + 1
    · rw [Sg.mergeS_join h, List.mem_append, List.mem_singleton] at hx
      rcases hx with hx | rfl
      · exact hq x (by simp [hx])
      · have := hq u (by simp)
        show 0 ≤ max u.hi v.hi ∧ max u.hi v.hi ≤ 100
        omega
    · rw [Sg.mergeS_app h, List.mem_append, List.mem_singleton] at hx
      rcases hx with hx | rfl
      · exact hq x hx
      · exact hv
theorem Sg.merge_fine {S : List Sg.Value} (h : ∀ x ∈ S, 0 ≤ x.hi ∧ x.hi ≤ 100) : ∀ x ∈ Sg.mergeV S, 0 ≤ x.hi ∧ x.hi ≤ 100 := by
  revert h
  refine Lx.list_rev_ind (P := fun S => (∀ x ∈ S, 0 ≤ x.hi ∧ x.hi ≤ 100) → ∀ x ∈ Sg.mergeV S, 0 ≤ x.hi ∧ x.hi ≤ 100) (fun _ x hx => by cases hx) (fun l a ih h => ?_) S
  rw [Sg.mergeV_snoc]
  exact Sg.mergeS_fine (ih fun x hx => h x (by simp [hx])) (h a (by simp))
theorem Sg.mergeS_len (q : List Sg.Value) (v : Sg.Value) : (Sg.mergeS q v).length ≤ q.length + 1 := by
  rcases Lx.list_rev_ind (P := fun q => q = [] ∨ ∃ r u, q = r ++ [u]) (.inl rfl) (fun l a _ => .inr ⟨l, a, rfl⟩) q with rfl | ⟨r, u, rfl⟩
  · exact Nat.le_refl _
  · by_cases h : Sg.neq u v ∧ v.lo ≤ u.hi + 1
    · rw [Sg.mergeS_join h]; simp
    · rw [Sg.mergeS_app h]; simp
theorem Sg.merge_len (S : List Sg.Value) : (Sg.mergeV S).length ≤ S.length := by
  refine Lx.list_rev_ind (P := fun S => (Sg.mergeV S).length ≤ S.length) (Nat.le_refl _) (fun l a ih => ?_) S
  rw [Sg.mergeV_snoc]
  have := Sg.mergeS_len (Sg.mergeV l) a
  rw [List.length_append]
  simp only [List.length_singleton]
  omega
/-- no cell of a row of the call's own is frozen -/
theorem own_free {w : World} {base g n cap size : Nat} {e : TypeId} {xs : List Value} (h : w.ownsRow base e size (.slice (some ⟨g, 0, none⟩) n cap) n xs) (o : Nat) : w.frozen? ⟨g, o, none⟩ = false := by
  rcases h.2 with ⟨e, -⟩ | ⟨g', cap', cur, e, -, hh, -⟩
  · cases e
  · cases e
    simp [World.frozen?, hh]
/-- the end of the last value of a row is written anew -/
theorem own_last {w : World} {base g m cap : Nat} {q : List Sg.Value} {u : Sg.Value} (x : Int) (hq : q.length = m) (h : w.ownsRow base 60 4 (.slice (some ⟨g, 0, none⟩) (m + 1) cap) (m + 1) ((q ++ [u]).flatMap encValue)) :
    (w.setCell ⟨g, m * 4 + 3, none⟩ (.int .i64 x)).ownsRow base 60 4 (.slice (some ⟨g, 0, none⟩) (m + 1) cap) (m + 1) ((q ++ [(⟨u.kind, u.text, u.lo, x⟩ : Sg.Value)]).flatMap encValue) := by
  rcases h.2 with ⟨e, -⟩ | ⟨g', cap', cur, e, hg, hh, hle, hm, hs, ht⟩
  · cases e
  · cases e
    have hlen : (q.flatMap encValue).length = m * 4 := by rw [flat_len len_value, hq]
    refine ⟨by rw [flat_len len_value, List.length_append, hq]; rfl, .inr ⟨g, cap, cur.setIfInBounds (m * 4 + 3) (.int .i64 x), rfl, hg, gset hh _, hle, hm, by simpa using hs, ?_⟩⟩
    rw [List.flatMap_append] at ht ⊢
    have e1 : (cur.setIfInBounds (m * 4 + 3) (.int .i64 x)).toList = cur.toList.set (m * 4 + 3) (.int .i64 x) := by simp
    have hlt : m * 4 + 3 < cur.toList.length := by
      have : (m + 1) * 4 ≤ cap * 4 := Nat.mul_le_mul_right 4 hle
      rw [Array.length_toList]
      omega
    rw [e1, List.take_set, ht]
    rw [List.set_append_right _ _ (by omega), hlen]
    congr 1
    simp [encValue]
structure TdaR (T0 : Array Value) (W0 : World) (vv : Value) (vb : Nat) (d : Array Bool) (t : Array Value) (wc : World) : Prop where
  bel : Below W0.heap.size W0 wc
  siz : t.size = 64
  kp : ∀ i, i ∉ ([19, 20, 21, 22, 23, 24, 25, 26, 27, 28, 29, 30, 31, 32, 33, 34, 35, 36, 37, 38, 39, 40, 41, 42, 43] : List Nat) → t[i]? = T0[i]?
  k3 : t[3]? = some (vv)
  k5 : t[5]? = some (.pointer (some ⟨vb, 0, none⟩))
  k6 : t[6]? = some (.int .i64 0)
  p0 : dn d 0 → t[19]? = some (.int .i64 0)
  p1 : dn d 1 → t[20]? = some (.bool false)
  p2 : dn d 2 → t[21]? = some (.bool false)
  p3 : dn d 3 → t[22]? = some (undef)
  p4 : dn d 4 → t[23]? = some (undef)
  p5 : dn d 5 → t[24]? = some (undef)
  p6 : dn d 6 → t[25]? = some (undef)
  p7 : dn d 7 → t[26]? = some (undef)
  p8 : dn d 8 → t[27]? = some (undef)
  p9 : dn d 9 → t[28]? = some (undef)
  p10 : dn d 10 → t[29]? = some (undef)
  p11 : dn d 11 → t[30]? = some (undef)
  p12 : dn d 12 → t[31]? = some (.bool false)
  p13 : dn d 13 → t[32]? = some (.bool false)
  p14 : dn d 14 → t[33]? = some (undef)
  p15 : dn d 15 → t[34]? = some (undef)
  p16 : dn d 16 → t[35]? = some (undef)
  p17 : dn d 17 → t[36]? = some (undef)
  p18 : dn d 18 → t[37]? = some (undef)
  p19 : dn d 19 → t[38]? = some (undef)
  p20 : dn d 20 → t[39]? = some (undef)
  p21 : dn d 21 → t[40]? = some (undef)
  p22 : dn d 22 → t[41]? = some (undef)
  p23 : dn d 23 → t[42]? = some (undef)
  p24 : dn d 24 → t[43]? = some (.bool false)
def TdaI (T0 : Array Value) (W0 : World) (vv : Value) (vb : Nat) (d : Array Bool) (a : Act) (wc : World) : Prop := ∃ t : Array Value, a = ⟨t, []⟩ ∧ TdaR T0 W0 vv vb d t wc
structure TdbR (T0 : Array Value) (W0 : World) (b m cv vb : Nat) (ku : Int) (su : ByteArray) (lu hu : Int) (kv : Int) (sv : ByteArray) (lv hv : Int) (d : Array Bool) (t : Array Value) (wc : World) : Prop where
  bel : Below W0.heap.size W0 wc
  siz : t.size = 64
  kp : ∀ i, i ∉ ([19, 20, 21, 22, 23, 24, 25, 26, 27, 28, 29, 30, 31, 32, 33, 34, 35, 36, 37, 38, 39, 40, 41, 42, 43] : List Nat) → t[i]? = T0[i]?
  k3 : t[3]? = some (.slice (some ⟨b, 0, none⟩) (m + 1) cv)
  k5 : t[5]? = some (.pointer (some ⟨vb, 0, none⟩))
  k6 : t[6]? = some (.int .i64 ((m : Int) + 1))
  p0 : dn d 0 → t[19]? = some (.int .i64 ((m : Int) + 1))
  p1 : dn d 1 → t[20]? = some (.bool true)
  p2 : dn d 2 → t[21]? = some (.bool true)
  p3 : dn d 3 → t[22]? = some (.slice (some ⟨b, 0, none⟩) (m + 1) cv)
  p4 : dn d 4 → t[23]? = some (.int .i64 ((m : Int) + 1))
  p5 : dn d 5 → t[24]? = some (.int .i64 (m : Int))
  p6 : dn d 6 → t[25]? = some (.pointer (some ⟨b, m * 4, none⟩))
  p7 : dn d 7 → t[26]? = some (.agg #[.int .i64 ku, .string su, .int .i64 lu, .int .i64 hu])
  p8 : dn d 8 → t[27]? = some (.agg #[.int .i64 ku, .string su])
  p9 : dn d 9 → t[28]? = some (.agg #[.int .i64 kv, .string sv, .int .i64 lv, .int .i64 hv])
  p10 : dn d 10 → t[29]? = some (.agg #[.int .i64 kv, .string sv])
  p11 : dn d 11 → t[30]? = some (.bool false)
  p12 : dn d 12 → t[31]? = some (.bool false)
  p13 : dn d 13 → t[32]? = some (.bool false)
  p14 : dn d 14 → t[33]? = some (undef)
  p15 : dn d 15 → t[34]? = some (undef)
  p16 : dn d 16 → t[35]? = some (undef)
  p17 : dn d 17 → t[36]? = some (undef)
  p18 : dn d 18 → t[37]? = some (undef)
  p19 : dn d 19 → t[38]? = some (undef)
  p20 : dn d 20 → t[39]? = some (undef)
  p21 : dn d 21 → t[40]? = some (undef)
  p22 : dn d 22 → t[41]? = some (undef)
  p23 : dn d 23 → t[42]? = some (undef)
  p24 : dn d 24 → t[43]? = some (.bool false)
def TdbI (T0 : Array Value) (W0 : World) (b m cv vb : Nat) (ku : Int) (su : ByteArray) (lu hu : Int) (kv : Int) (sv : ByteArray) (lv hv : Int) (d : Array Bool) (a : Act) (wc : World) : Prop := ∃ t : Array Value, a = ⟨t, []⟩ ∧ TdbR T0 W0 b m cv vb ku su lu hu kv sv lv hv d t wc
structure TdcR (T0 : Array Value) (W0 : World) (b m cv vb : Nat) (ku : Int) (su : ByteArray) (lu hu : Int) (kv : Int) (sv : ByteArray) (lv hv : Int) (q : Bool) (d : Array Bool) (t : Array Value) (wc : World) : Prop where
  bel : Below W0.heap.size W0 wc
  siz : t.size = 64
  kp : ∀ i, i ∉ ([19, 20, 21, 22, 23, 24, 25, 26, 27, 28, 29, 30, 31, 32, 33, 34, 35, 36, 37, 38, 39, 40, 41, 42, 43] : List Nat) → t[i]? = T0[i]?
  k3 : t[3]? = some (.slice (some ⟨b, 0, none⟩) (m + 1) cv)
  k5 : t[5]? = some (.pointer (some ⟨vb, 0, none⟩))
  k6 : t[6]? = some (.int .i64 ((m : Int) + 1))
  p0 : dn d 0 → t[19]? = some (.int .i64 ((m : Int) + 1))
  p1 : dn d 1 → t[20]? = some (.bool true)
  p2 : dn d 2 → t[21]? = some (.bool true)
  p3 : dn d 3 → t[22]? = some (.slice (some ⟨b, 0, none⟩) (m + 1) cv)
  p4 : dn d 4 → t[23]? = some (.int .i64 ((m : Int) + 1))
  p5 : dn d 5 → t[24]? = some (.int .i64 (m : Int))
  p6 : dn d 6 → t[25]? = some (.pointer (some ⟨b, m * 4, none⟩))
  p7 : dn d 7 → t[26]? = some (.agg #[.int .i64 ku, .string su, .int .i64 lu, .int .i64 hu])
  p8 : dn d 8 → t[27]? = some (.agg #[.int .i64 ku, .string su])
  p9 : dn d 9 → t[28]? = some (.agg #[.int .i64 kv, .string sv, .int .i64 lv, .int .i64 hv])
  p10 : dn d 10 → t[29]? = some (.agg #[.int .i64 kv, .string sv])
  p11 : dn d 11 → t[30]? = some (.bool true)
  p12 : dn d 12 → t[31]? = some (.bool true)
  p13 : dn d 13 → t[32]? = some (.bool true)
  p14 : dn d 14 → t[33]? = some (.pointer (some ⟨vb, 2, none⟩))
  p15 : dn d 15 → t[34]? = some (.int .i64 lv)
  p16 : dn d 16 → t[35]? = some (.slice (some ⟨b, 0, none⟩) (m + 1) cv)
  p17 : dn d 17 → t[36]? = some (.int .i64 ((m : Int) + 1))
  p18 : dn d 18 → t[37]? = some (.int .i64 (m : Int))
  p19 : dn d 19 → t[38]? = some (.pointer (some ⟨b, m * 4, none⟩))
  p20 : dn d 20 → t[39]? = some (.pointer (some ⟨b, m * 4 + 3, none⟩))
  p21 : dn d 21 → t[40]? = some (.int .i64 hu)
  p22 : dn d 22 → t[41]? = some (.int .i64 (hu + 1))
  p23 : dn d 23 → t[42]? = some (.bool q)
  p24 : dn d 24 → t[43]? = some (.bool q)
def TdcI (T0 : Array Value) (W0 : World) (b m cv vb : Nat) (ku : Int) (su : ByteArray) (lu hu : Int) (kv : Int) (sv : ByteArray) (lv hv : Int) (q : Bool) (d : Array Bool) (a : Act) (wc : World) : Prop := ∃ t : Array Value, a = ⟨t, []⟩ ∧ TdcR T0 W0 b m cv vb ku su lu hu kv sv lv hv q d t wc
theorem own_lenM {m : Nat} {r : List Sg.Value} {u : Sg.Value} (hm : m = r.length) : (r ++ [u]).length = m + 1 := by rw [List.length_append, ← hm]; rfl
theorem own_valueM {w' : World} {base m : Nat} {v' : Value} {r : List Sg.Value} {u z : Sg.Value} (hm : m = r.length) (h : w'.ownsRow base 60 4 v' (m + 1 + 1) (r.flatMap encValue ++ (encValue u ++ encValue z))) : w'.ownsRow base 60 4 v' ((r ++ [u]) ++ [z]).length (((r ++ [u]) ++ [z]).flatMap encValue) := by
  have e : ((r ++ [u]) ++ [z]).flatMap encValue = r.flatMap encValue ++ (encValue u ++ encValue z) := by simp
  rw [List.length_append, List.length_append, ← hm, e]
  exact h
set_option maxRecDepth 100000 in
set_option maxHeartbeats 8000000 in
theorem gTidyL_any (v : Value) (L : List Sg.Value) (w : World) (hr : RdS w w.heap.size 4 encValue v L) (hlen : L.length ≤ 1000) (hfine : ∀ x ∈ L, 1 ≤ x.lo ∧ x.lo ≤ x.hi ∧ x.hi ≤ 100) : Calls Tryz.prog 84 #[v] w (RetVals (Sg.tidiedV L) w) := by
  have HCL := Lib.hid (gCloneV_any v L w hr hlen)
  have HFN := Lib.hid hfine
  obtain ⟨i1, hi1, hz1, hs1', hb1'⟩ := info_parts info_Value
  clear hr hfine
  go_enter Tryz.func84, Tryz.ntmps84
  go_wp2_with fail
  refine HCL.out.mono ?_
  rintro e w1 ⟨v1, rfl, hown1, hb1⟩
  have HB1 := Lib.hid hb1
  have HSO := Lib.hid (gSortV_any v1 L w.heap.size w1 hown1 hlen hb1.size)
  clear hown1 hb1
  go_wp2_with fail
  refine HSO.out.mono ?_
  rintro e w2 ⟨rfl, S, hperm, hsort, hown2, hb2⟩
  have HB2 := Lib.hid (HB1.out.trans hb2)
  have hSl : S.length ≤ 1000 := by rw [hperm.length_eq]; exact hlen
  have HSF : Hid (∀ x ∈ S, 0 ≤ x.hi ∧ x.hi ≤ 100) := Lib.hid fun x hx => by
    have := HFN.out x (hperm.mem_iff.1 hx)
    omega
  have HTV : Hid (Sg.mergeV S = Sg.tidiedV L) := Lib.hid (Sg.tidy_law (fun x hx => (HFN.out x hx).2.1) hperm hsort)
  obtain ⟨A1, c1, rfl⟩ := own_form hown2
  have HRW := Lib.hid (rds_of_own len_value hown2)
  clear hperm hsort hown2 hb2
  go_wp2_with fail
  go_loopg [3, 13] S.length (fun g vv i wr => ∃ (k : Nat) (q : List Sg.Value), k ≤ S.length ∧ g = S.length - k ∧ i = .int .i64 (k : Nat) ∧ Below w2.heap.size w2 wr ∧ wr.ownsRow w2.heap.size 60 4 vv q.length (q.flatMap encValue) ∧ Sg.mergeV (S.take k) = q)
  case atStart => exact ⟨0, [], Nat.zero_le _, rfl, rfl, Below.refl _ _, World.ownsRow_nil _ _ _ _, rfl⟩
  case round =>
    obtain ⟨k, q, hk, rfl, rfl, hbel, hown, hq⟩ := hrel
    have HBR := Lib.hid hbel
    have hszr := hbel.size
    by_cases hlt : k < S.length
    · obtain ⟨y, hy⟩ : ∃ y, S[k]? = some y := ⟨_, List.getElem?_eq_getElem hlt⟩
      have hnx := Sg.mergeV_next hy
      rw [hq] at hnx
      have hqf : ∀ x ∈ q, 0 ≤ x.hi ∧ x.hi ≤ 100 := by rw [← hq]; exact Sg.merge_fine fun x hx => HSF.out x (List.mem_of_mem_take hx)
      have hyf := HSF.out y (List.mem_of_getElem? hy)
      have hql : q.length ≤ k := by
        rw [← hq]
        exact Nat.le_trans (Sg.merge_len _) (List.length_take_le _ _)
      obtain ⟨kv, sv, lv, hv⟩ := y
      obtain ⟨b1, o1, rfl, hb1, hcv⟩ := RdX.four HRW.out (by omega)
      obtain ⟨g0, g1, g2, g3⟩ := hcv k _ hy
      have f0 := (hbel.cell (p := ⟨b1, o1 + k * 4, none⟩) hb1).trans g0
      have f1 := (hbel.cell (p := ⟨b1, o1 + k * 4 + 1, none⟩) hb1).trans g1
      have f2 := (hbel.cell (p := ⟨b1, o1 + k * 4 + 2, none⟩) hb1).trans g2
      have f3 := (hbel.cell (p := ⟨b1, o1 + k * 4 + 3, none⟩) hb1).trans g3
      have HOK := Lib.hid hown
      obtain ⟨wS, hwS⟩ : ∃ wS, wS = wr.alloc (.cells #[.int .i64 kv, .string sv, .int .i64 lv, .int .i64 hv] 60) := ⟨_, rfl⟩
      have hbS : Below wr.heap.size wr wS := by rw [hwS]; exact (Below.refl _ _).alloc (Nat.le_refl _) _
      have hsb : wS.heap[wr.heap.size]? = some (.cells #[.int .i64 kv, .string sv, .int .i64 lv, .int .i64 hv] 60 (0, 0)) := by rw [hwS]; exact heap_alloc_new _ _
      have hszS : wr.heap.size < wS.heap.size := by rw [hwS]; simp
      have HRS := Lib.hid hbS
      have HBS := Lib.hid (hbel.trans (hbS.mono hbel.size))
      have CVS : Hid (∀ W, Below wS.heap.size wS W → W.cell? ⟨wr.heap.size, 0, none⟩ = some (.int .i64 kv) ∧ W.cell? ⟨wr.heap.size, 1, none⟩ = some (.string sv) ∧ W.cell? ⟨wr.heap.size, 2, none⟩ = some (.int .i64 lv) ∧ W.cell? ⟨wr.heap.size, 3, none⟩ = some (.int .i64 hv)) := Lib.hid fun W hW => by
        have p := (hW.block _ hszS).trans hsb
        exact ⟨by simp [World.cell?, p], by simp [World.cell?, p], by simp [World.cell?, p], by simp [World.cell?, p]⟩
      have HWS := Lib.hid hwS
      have hkI : (0 : Int) ≤ (k : Int) := by omega
      have hkJ : (k : Int) < (S.length : Int) := by omega
      clear hcv hy g0 g1 g2 g3 hwS hbS hsb hq hown hbel
      rcases Lx.list_rev_ind (P := fun q => q = [] ∨ ∃ r u, q = r ++ [u]) (.inl rfl) (fun l a _ => .inr ⟨l, a, rfl⟩) q with rfl | ⟨r, u, rfl⟩
      · have HNX : Hid (Sg.mergeV (S.take (k + 1)) = [] ++ [⟨kv, sv, lv, hv⟩]) := Lib.hid (by rw [hnx]; rfl)
        obtain ⟨Av, cv, rfl⟩ := own_form HOK.out
        clear hnx hqf
        go_upto_region 8 with fail
        rw [← HWS.out]
        clear f0 f1 f2 f3
        refine wp_region_inv2T (fun T0 => TdaI T0 wS (.slice Av 0 cv) wr.heap.size) (by kernel_rfl) (by kernel_rfl) ?g0a ?gstepa ?genda
        case g0a =>
          have hno : ∀ j, ¬ dn (Array.replicate 25 false) j := by
            intro j; unfold dn; by_cases hj : j < 25 <;> simp [Array.getD, hj]
          have na : ∀ {j : Nat} {Z : Prop}, dn (Array.replicate 25 false) j → Z := fun hj => absurd hj (hno _)
          exact ⟨_, rfl, { bel := (Below.refl _ _).drew, siz := rfl, kp := fun _ _ => rfl, k3 := rfl, k5 := rfl, k6 := rfl, p0 := na, p1 := na, p2 := na, p3 := na, p4 := na, p5 := na, p6 := na, p7 := na, p8 := na, p9 := na, p10 := na, p11 := na, p12 := na, p13 := na, p14 := na, p15 := na, p16 := na, p17 := na, p18 := na, p19 := na, p20 := na, p21 := na, p22 := na, p23 := na, p24 := na }⟩
        case gstepa =>
          intro T0 d a wc i hd hI hi
          obtain ⟨hlt, hnd, hpre⟩ := mem_ready hi
          have hd' : d.size = 25 := hd
          have hin : i < 25 := hlt
          clear hi hd hlt
          obtain ⟨t, rfl, h⟩ := hI
          have hcs : i = 0 ∨ i = 1 ∨ i = 2 ∨ i = 3 ∨ i = 4 ∨ i = 5 ∨ i = 6 ∨ i = 7 ∨ i = 8 ∨ i = 9 ∨ i = 10 ∨ i = 11 ∨ i = 12 ∨ i = 13 ∨ i = 14 ∨ i = 15 ∨ i = 16 ∨ i = 17 ∨ i = 18 ∨ i = 19 ∨ i = 20 ∨ i = 21 ∨ i = 22 ∨ i = 23 ∨ i = 24 := by omega
          rcases hcs with rfl | rfl | rfl | rfl | rfl | rfl | rfl | rfl | rfl | rfl | rfl | rfl | rfl | rfl | rfl | rfl | rfl | rfl | rfl | rfl | rfl | rfl | rfl | rfl | rfl
          · have hi : 0 < d.size := by omega
            have q6 := h.k6
            refine wpOp_plain rfl rfl ?_
            go_simp
            exact ⟨_, rfl, { bel := h.bel, siz := (by simpa using h.siz), kp := rk h.kp, k3 := rs h.k3, k5 := rs h.k5, k6 := rs h.k6, p0 := fun _ => set_same (by have := h.siz; omega), p1 := rp hi h.p1, p2 := rp hi h.p2, p3 := rp hi h.p3, p4 := rp hi h.p4, p5 := rp hi h.p5, p6 := rp hi h.p6, p7 := rp hi h.p7, p8 := rp hi h.p8, p9 := rp hi h.p9, p10 := rp hi h.p10, p11 := rp hi h.p11, p12 := rp hi h.p12, p13 := rp hi h.p13, p14 := rp hi h.p14, p15 := rp hi h.p15, p16 := rp hi h.p16, p17 := rp hi h.p17, p18 := rp hi h.p18, p19 := rp hi h.p19, p20 := rp hi h.p20, p21 := rp hi h.p21, p22 := rp hi h.p22, p23 := rp hi h.p23, p24 := rp hi h.p24 }⟩
          · have hi : 1 < d.size := by omega
            have e0 := h.p0 (hpre _ rfl ⟨0, .data⟩ (by simp) rfl)
            refine wpOp_plain rfl rfl ?_
            go_simp
            exact ⟨_, rfl, { bel := h.bel, siz := (by simpa using h.siz), kp := rk h.kp, k3 := rs h.k3, k5 := rs h.k5, k6 := rs h.k6, p0 := rp hi h.p0, p1 := fun _ => set_same (by have := h.siz; omega), p2 := rp hi h.p2, p3 := rp hi h.p3, p4 := rp hi h.p4, p5 := rp hi h.p5, p6 := rp hi h.p6, p7 := rp hi h.p7, p8 := rp hi h.p8, p9 := rp hi h.p9, p10 := rp hi h.p10, p11 := rp hi h.p11, p12 := rp hi h.p12, p13 := rp hi h.p13, p14 := rp hi h.p14, p15 := rp hi h.p15, p16 := rp hi h.p16, p17 := rp hi h.p17, p18 := rp hi h.p18, p19 := rp hi h.p19, p20 := rp hi h.p20, p21 := rp hi h.p21, p22 := rp hi h.p22, p23 := rp hi h.p23, p24 := rp hi h.p24 }⟩
          · have hi : 2 < d.size := by omega
            have e1 := h.p1 (hpre _ rfl ⟨1, .data⟩ (by simp) rfl)
            refine wpOp_plain rfl rfl ?_
            go_simp
            exact ⟨_, rfl, { bel := h.bel, siz := (by simpa using h.siz), kp := rk h.kp, k3 := rs h.k3, k5 := rs h.k5, k6 := rs h.k6, p0 := rp hi h.p0, p1 := rp hi h.p1, p2 := fun _ => set_same (by have := h.siz; omega), p3 := rp hi h.p3, p4 := rp hi h.p4, p5 := rp hi h.p5, p6 := rp hi h.p6, p7 := rp hi h.p7, p8 := rp hi h.p8, p9 := rp hi h.p9, p10 := rp hi h.p10, p11 := rp hi h.p11, p12 := rp hi h.p12, p13 := rp hi h.p13, p14 := rp hi h.p14, p15 := rp hi h.p15, p16 := rp hi h.p16, p17 := rp hi h.p17, p18 := rp hi h.p18, p19 := rp hi h.p19, p20 := rp hi h.p20, p21 := rp hi h.p21, p22 := rp hi h.p22, p23 := rp hi h.p23, p24 := rp hi h.p24 }⟩
          · have hi : 3 < d.size := by omega
            refine wpOp_idle rfl (unwanted_of (d := 21) rfl rfl (h.p2 (hpre _ rfl ⟨2, .guard⟩ (by simp) rfl)) (by decide)) ?_
            exact ⟨_, rfl, { bel := h.bel, siz := (by simpa using h.siz), kp := rk h.kp, k3 := rs h.k3, k5 := rs h.k5, k6 := rs h.k6, p0 := rp hi h.p0, p1 := rp hi h.p1, p2 := rp hi h.p2, p3 := fun _ => set_same (by have := h.siz; show _ < t.size; omega), p4 := rp hi h.p4, p5 := rp hi h.p5, p6 := rp hi h.p6, p7 := rp hi h.p7, p8 := rp hi h.p8, p9 := rp hi h.p9, p10 := rp hi h.p10, p11 := rp hi h.p11, p12 := rp hi h.p12, p13 := rp hi h.p13, p14 := rp hi h.p14, p15 := rp hi h.p15, p16 := rp hi h.p16, p17 := rp hi h.p17, p18 := rp hi h.p18, p19 := rp hi h.p19, p20 := rp hi h.p20, p21 := rp hi h.p21, p22 := rp hi h.p22, p23 := rp hi h.p23, p24 := rp hi h.p24 }⟩
          · have hi : 4 < d.size := by omega
            refine wpOp_idle rfl (unwanted_of (d := 21) rfl rfl (h.p2 (hpre _ rfl ⟨2, .guard⟩ (by simp) rfl)) (by decide)) ?_
            exact ⟨_, rfl, { bel := h.bel, siz := (by simpa using h.siz), kp := rk h.kp, k3 := rs h.k3, k5 := rs h.k5, k6 := rs h.k6, p0 := rp hi h.p0, p1 := rp hi h.p1, p2 := rp hi h.p2, p3 := rp hi h.p3, p4 := fun _ => set_same (by have := h.siz; show _ < t.size; omega), p5 := rp hi h.p5, p6 := rp hi h.p6, p7 := rp hi h.p7, p8 := rp hi h.p8, p9 := rp hi h.p9, p10 := rp hi h.p10, p11 := rp hi h.p11, p12 := rp hi h.p12, p13 := rp hi h.p13, p14 := rp hi h.p14, p15 := rp hi h.p15, p16 := rp hi h.p16, p17 := rp hi h.p17, p18 := rp hi h.p18, p19 := rp hi h.p19, p20 := rp hi h.p20, p21 := rp hi h.p21, p22 := rp hi h.p22, p23 := rp hi h.p23, p24 := rp hi h.p24 }⟩
          · have hi : 5 < d.size := by omega
            refine wpOp_idle rfl (unwanted_of (d := 21) rfl rfl (h.p2 (hpre _ rfl ⟨2, .guard⟩ (by simp) rfl)) (by decide)) ?_
            exact ⟨_, rfl, { bel := h.bel, siz := (by simpa using h.siz), kp := rk h.kp, k3 := rs h.k3, k5 := rs h.k5, k6 := rs h.k6, p0 := rp hi h.p0, p1 := rp hi h.p1, p2 := rp hi h.p2, p3 := rp hi h.p3, p4 := rp hi h.p4, p5 := fun _ => set_same (by have := h.siz; show _ < t.size; omega), p6 := rp hi h.p6, p7 := rp hi h.p7, p8 := rp hi h.p8, p9 := rp hi h.p9, p10 := rp hi h.p10, p11 := rp hi h.p11, p12 := rp hi h.p12, p13 := rp hi h.p13, p14 := rp hi h.p14, p15 := rp hi h.p15, p16 := rp hi h.p16, p17 := rp hi h.p17, p18 := rp hi h.p18, p19 := rp hi h.p19, p20 := rp hi h.p20, p21 := rp hi h.p21, p22 := rp hi h.p22, p23 := rp hi h.p23, p24 := rp hi h.p24 }⟩
          · have hi : 6 < d.size := by omega
            refine wpOp_idle rfl (unwanted_of (d := 21) rfl rfl (h.p2 (hpre _ rfl ⟨2, .guard⟩ (by simp) rfl)) (by decide)) ?_
            exact ⟨_, rfl, { bel := h.bel, siz := (by simpa using h.siz), kp := rk h.kp, k3 := rs h.k3, k5 := rs h.k5, k6 := rs h.k6, p0 := rp hi h.p0, p1 := rp hi h.p1, p2 := rp hi h.p2, p3 := rp hi h.p3, p4 := rp hi h.p4, p5 := rp hi h.p5, p6 := fun _ => set_same (by have := h.siz; show _ < t.size; omega), p7 := rp hi h.p7, p8 := rp hi h.p8, p9 := rp hi h.p9, p10 := rp hi h.p10, p11 := rp hi h.p11, p12 := rp hi h.p12, p13 := rp hi h.p13, p14 := rp hi h.p14, p15 := rp hi h.p15, p16 := rp hi h.p16, p17 := rp hi h.p17, p18 := rp hi h.p18, p19 := rp hi h.p19, p20 := rp hi h.p20, p21 := rp hi h.p21, p22 := rp hi h.p22, p23 := rp hi h.p23, p24 := rp hi h.p24 }⟩
          · have hi : 7 < d.size := by omega
            refine wpOp_idle rfl (unwanted_of (d := 21) rfl rfl (h.p2 (hpre _ rfl ⟨2, .guard⟩ (by simp) rfl)) (by decide)) ?_
            exact ⟨_, rfl, { bel := h.bel, siz := (by simpa using h.siz), kp := rk h.kp, k3 := rs h.k3, k5 := rs h.k5, k6 := rs h.k6, p0 := rp hi h.p0, p1 := rp hi h.p1, p2 := rp hi h.p2, p3 := rp hi h.p3, p4 := rp hi h.p4, p5 := rp hi h.p5, p6 := rp hi h.p6, p7 := fun _ => set_same (by have := h.siz; show _ < t.size; omega), p8 := rp hi h.p8, p9 := rp hi h.p9, p10 := rp hi h.p10, p11 := rp hi h.p11, p12 := rp hi h.p12, p13 := rp hi h.p13, p14 := rp hi h.p14, p15 := rp hi h.p15, p16 := rp hi h.p16, p17 := rp hi h.p17, p18 := rp hi h.p18, p19 := rp hi h.p19, p20 := rp hi h.p20, p21 := rp hi h.p21, p22 := rp hi h.p22, p23 := rp hi h.p23, p24 := rp hi h.p24 }⟩
          · have hi : 8 < d.size := by omega
            refine wpOp_idle rfl (unwanted_of (d := 21) rfl rfl (h.p2 (hpre _ rfl ⟨2, .guard⟩ (by simp) rfl)) (by decide)) ?_
            exact ⟨_, rfl, { bel := h.bel, siz := (by simpa using h.siz), kp := rk h.kp, k3 := rs h.k3, k5 := rs h.k5, k6 := rs h.k6, p0 := rp hi h.p0, p1 := rp hi h.p1, p2 := rp hi h.p2, p3 := rp hi h.p3, p4 := rp hi h.p4, p5 := rp hi h.p5, p6 := rp hi h.p6, p7 := rp hi h.p7, p8 := fun _ => set_same (by have := h.siz; show _ < t.size; omega), p9 := rp hi h.p9, p10 := rp hi h.p10, p11 := rp hi h.p11, p12 := rp hi h.p12, p13 := rp hi h.p13, p14 := rp hi h.p14, p15 := rp hi h.p15, p16 := rp hi h.p16, p17 := rp hi h.p17, p18 := rp hi h.p18, p19 := rp hi h.p19, p20 := rp hi h.p20, p21 := rp hi h.p21, p22 := rp hi h.p22, p23 := rp hi h.p23, p24 := rp hi h.p24 }⟩
          · have hi : 9 < d.size := by omega
            refine wpOp_idle rfl (unwanted_of (d := 21) rfl rfl (h.p2 (hpre _ rfl ⟨2, .guard⟩ (by simp) rfl)) (by decide)) ?_
            exact ⟨_, rfl, { bel := h.bel, siz := (by simpa using h.siz), kp := rk h.kp, k3 := rs h.k3, k5 := rs h.k5, k6 := rs h.k6, p0 := rp hi h.p0, p1 := rp hi h.p1, p2 := rp hi h.p2, p3 := rp hi h.p3, p4 := rp hi h.p4, p5 := rp hi h.p5, p6 := rp hi h.p6, p7 := rp hi h.p7, p8 := rp hi h.p8, p9 := fun _ => set_same (by have := h.siz; show _ < t.size; omega), p10 := rp hi h.p10, p11 := rp hi h.p11, p12 := rp hi h.p12, p13 := rp hi h.p13, p14 := rp hi h.p14, p15 := rp hi h.p15, p16 := rp hi h.p16, p17 := rp hi h.p17, p18 := rp hi h.p18, p19 := rp hi h.p19, p20 := rp hi h.p20, p21 := rp hi h.p21, p22 := rp hi h.p22, p23 := rp hi h.p23, p24 := rp hi h.p24 }⟩
          · have hi : 10 < d.size := by omega
            refine wpOp_idle rfl (unwanted_of (d := 21) rfl rfl (h.p2 (hpre _ rfl ⟨2, .guard⟩ (by simp) rfl)) (by decide)) ?_
            exact ⟨_, rfl, { bel := h.bel, siz := (by simpa using h.siz), kp := rk h.kp, k3 := rs h.k3, k5 := rs h.k5, k6 := rs h.k6, p0 := rp hi h.p0, p1 := rp hi h.p1, p2 := rp hi h.p2, p3 := rp hi h.p3, p4 := rp hi h.p4, p5 := rp hi h.p5, p6 := rp hi h.p6, p7 := rp hi h.p7, p8 := rp hi h.p8, p9 := rp hi h.p9, p10 := fun _ => set_same (by have := h.siz; show _ < t.size; omega), p11 := rp hi h.p11, p12 := rp hi h.p12, p13 := rp hi h.p13, p14 := rp hi h.p14, p15 := rp hi h.p15, p16 := rp hi h.p16, p17 := rp hi h.p17, p18 := rp hi h.p18, p19 := rp hi h.p19, p20 := rp hi h.p20, p21 := rp hi h.p21, p22 := rp hi h.p22, p23 := rp hi h.p23, p24 := rp hi h.p24 }⟩
          · have hi : 11 < d.size := by omega
            refine wpOp_idle rfl (unwanted_of (d := 21) rfl rfl (h.p2 (hpre _ rfl ⟨2, .guard⟩ (by simp) rfl)) (by decide)) ?_
            exact ⟨_, rfl, { bel := h.bel, siz := (by simpa using h.siz), kp := rk h.kp, k3 := rs h.k3, k5 := rs h.k5, k6 := rs h.k6, p0 := rp hi h.p0, p1 := rp hi h.p1, p2 := rp hi h.p2, p3 := rp hi h.p3, p4 := rp hi h.p4, p5 := rp hi h.p5, p6 := rp hi h.p6, p7 := rp hi h.p7, p8 := rp hi h.p8, p9 := rp hi h.p9, p10 := rp hi h.p10, p11 := fun _ => set_same (by have := h.siz; show _ < t.size; omega), p12 := rp hi h.p12, p13 := rp hi h.p13, p14 := rp hi h.p14, p15 := rp hi h.p15, p16 := rp hi h.p16, p17 := rp hi h.p17, p18 := rp hi h.p18, p19 := rp hi h.p19, p20 := rp hi h.p20, p21 := rp hi h.p21, p22 := rp hi h.p22, p23 := rp hi h.p23, p24 := rp hi h.p24 }⟩
          · have hi : 12 < d.size := by omega
            have e2 := h.p2 (hpre _ rfl ⟨2, .data⟩ (by simp) rfl)
            have e11 := h.p11 (hpre _ rfl ⟨11, .data⟩ (by simp) rfl)
            refine wpOp_plain rfl rfl ?_
            go_simp
            exact ⟨_, rfl, { bel := h.bel, siz := (by simpa using h.siz), kp := rk h.kp, k3 := rs h.k3, k5 := rs h.k5, k6 := rs h.k6, p0 := rp hi h.p0, p1 := rp hi h.p1, p2 := rp hi h.p2, p3 := rp hi h.p3, p4 := rp hi h.p4, p5 := rp hi h.p5, p6 := rp hi h.p6, p7 := rp hi h.p7, p8 := rp hi h.p8, p9 := rp hi h.p9, p10 := rp hi h.p10, p11 := rp hi h.p11, p12 := fun _ => set_same (by have := h.siz; omega), p13 := rp hi h.p13, p14 := rp hi h.p14, p15 := rp hi h.p15, p16 := rp hi h.p16, p17 := rp hi h.p17, p18 := rp hi h.p18, p19 := rp hi h.p19, p20 := rp hi h.p20, p21 := rp hi h.p21, p22 := rp hi h.p22, p23 := rp hi h.p23, p24 := rp hi h.p24 }⟩
          · have hi : 13 < d.size := by omega
            have e12 := h.p12 (hpre _ rfl ⟨12, .data⟩ (by simp) rfl)
            refine wpOp_plain rfl rfl ?_
            go_simp
            exact ⟨_, rfl, { bel := h.bel, siz := (by simpa using h.siz), kp := rk h.kp, k3 := rs h.k3, k5 := rs h.k5, k6 := rs h.k6, p0 := rp hi h.p0, p1 := rp hi h.p1, p2 := rp hi h.p2, p3 := rp hi h.p3, p4 := rp hi h.p4, p5 := rp hi h.p5, p6 := rp hi h.p6, p7 := rp hi h.p7, p8 := rp hi h.p8, p9 := rp hi h.p9, p10 := rp hi h.p10, p11 := rp hi h.p11, p12 := rp hi h.p12, p13 := fun _ => set_same (by have := h.siz; omega), p14 := rp hi h.p14, p15 := rp hi h.p15, p16 := rp hi h.p16, p17 := rp hi h.p17, p18 := rp hi h.p18, p19 := rp hi h.p19, p20 := rp hi h.p20, p21 := rp hi h.p21, p22 := rp hi h.p22, p23 := rp hi h.p23, p24 := rp hi h.p24 }⟩
          · have hi : 14 < d.size := by omega
            refine wpOp_idle rfl (unwanted_of (d := 32) rfl rfl (h.p13 (hpre _ rfl ⟨13, .guard⟩ (by simp) rfl)) (by decide)) ?_
            exact ⟨_, rfl, { bel := h.bel, siz := (by simpa using h.siz), kp := rk h.kp, k3 := rs h.k3, k5 := rs h.k5, k6 := rs h.k6, p0 := rp hi h.p0, p1 := rp hi h.p1, p2 := rp hi h.p2, p3 := rp hi h.p3, p4 := rp hi h.p4, p5 := rp hi h.p5, p6 := rp hi h.p6, p7 := rp hi h.p7, p8 := rp hi h.p8, p9 := rp hi h.p9, p10 := rp hi h.p10, p11 := rp hi h.p11, p12 := rp hi h.p12, p13 := rp hi h.p13, p14 := fun _ => set_same (by have := h.siz; show _ < t.size; omega), p15 := rp hi h.p15, p16 := rp hi h.p16, p17 := rp hi h.p17, p18 := rp hi h.p18, p19 := rp hi h.p19, p20 := rp hi h.p20, p21 := rp hi h.p21, p22 := rp hi h.p22, p23 := rp hi h.p23, p24 := rp hi h.p24 }⟩
          · have hi : 15 < d.size := by omega
            refine wpOp_idle rfl (unwanted_of (d := 32) rfl rfl (h.p13 (hpre _ rfl ⟨13, .guard⟩ (by simp) rfl)) (by decide)) ?_
            exact ⟨_, rfl, { bel := h.bel, siz := (by simpa using h.siz), kp := rk h.kp, k3 := rs h.k3, k5 := rs h.k5, k6 := rs h.k6, p0 := rp hi h.p0, p1 := rp hi h.p1, p2 := rp hi h.p2, p3 := rp hi h.p3, p4 := rp hi h.p4, p5 := rp hi h.p5, p6 := rp hi h.p6, p7 := rp hi h.p7, p8 := rp hi h.p8, p9 := rp hi h.p9, p10 := rp hi h.p10, p11 := rp hi h.p11, p12 := rp hi h.p12, p13 := rp hi h.p13, p14 := rp hi h.p14, p15 := fun _ => set_same (by have := h.siz; show _ < t.size; omega), p16 := rp hi h.p16, p17 := rp hi h.p17, p18 := rp hi h.p18, p19 := rp hi h.p19, p20 := rp hi h.p20, p21 := rp hi h.p21, p22 := rp hi h.p22, p23 := rp hi h.p23, p24 := rp hi h.p24 }⟩
          · have hi : 16 < d.size := by omega
            refine wpOp_idle rfl (unwanted_of (d := 32) rfl rfl (h.p13 (hpre _ rfl ⟨13, .guard⟩ (by simp) rfl)) (by decide)) ?_
            exact ⟨_, rfl, { bel := h.bel, siz := (by simpa using h.siz), kp := rk h.kp, k3 := rs h.k3, k5 := rs h.k5, k6 := rs h.k6, p0 := rp hi h.p0, p1 := rp hi h.p1, p2 := rp hi h.p2, p3 := rp hi h.p3, p4 := rp hi h.p4, p5 := rp hi h.p5, p6 := rp hi h.p6, p7 := rp hi h.p7, p8 := rp hi h.p8, p9 := rp hi h.p9, p10 := rp hi h.p10, p11 := rp hi h.p11, p12 := rp hi h.p12, p13 := rp hi h.p13, p14 := rp hi h.p14, p15 := rp hi h.p15, p16 := fun _ => set_same (by have := h.siz; show _ < t.size; omega), p17 := rp hi h.p17, p18 := rp hi h.p18, p19 := rp hi h.p19, p20 := rp hi h.p20, p21 := rp hi h.p21, p22 := rp hi h.p22, p23 := rp hi h.p23, p24 := rp hi h.p24 }⟩
          · have hi : 17 < d.size := by omega
            refine wpOp_idle rfl (unwanted_of (d := 32) rfl rfl (h.p13 (hpre _ rfl ⟨13, .guard⟩ (by simp) rfl)) (by decide)) ?_
            exact ⟨_, rfl, { bel := h.bel, siz := (by simpa using h.siz), kp := rk h.kp, k3 := rs h.k3, k5 := rs h.k5, k6 := rs h.k6, p0 := rp hi h.p0, p1 := rp hi h.p1, p2 := rp hi h.p2, p3 := rp hi h.p3, p4 := rp hi h.p4, p5 := rp hi h.p5, p6 := rp hi h.p6, p7 := rp hi h.p7, p8 := rp hi h.p8, p9 := rp hi h.p9, p10 := rp hi h.p10, p11 := rp hi h.p11, p12 := rp hi h.p12, p13 := rp hi h.p13, p14 := rp hi h.p14, p15 := rp hi h.p15, p16 := rp hi h.p16, p17 := fun _ => set_same (by have := h.siz; show _ < t.size; omega), p18 := rp hi h.p18, p19 := rp hi h.p19, p20 := rp hi h.p20, p21 := rp hi h.p21, p22 := rp hi h.p22, p23 := rp hi h.p23, p24 := rp hi h.p24 }⟩
          · have hi : 18 < d.size := by omega
            refine wpOp_idle rfl (unwanted_of (d := 32) rfl rfl (h.p13 (hpre _ rfl ⟨13, .guard⟩ (by simp) rfl)) (by decide)) ?_
            exact ⟨_, rfl, { bel := h.bel, siz := (by simpa using h.siz), kp := rk h.kp, k3 := rs h.k3, k5 := rs h.k5, k6 := rs h.k6, p0 := rp hi h.p0, p1 := rp hi h.p1, p2 := rp hi h.p2, p3 := rp hi h.p3, p4 := rp hi h.p4, p5 := rp hi h.p5, p6 := rp hi h.p6, p7 := rp hi h.p7, p8 := rp hi h.p8, p9 := rp hi h.p9, p10 := rp hi h.p10, p11 := rp hi h.p11, p12 := rp hi h.p12, p13 := rp hi h.p13, p14 := rp hi h.p14, p15 := rp hi h.p15, p16 := rp hi h.p16, p17 := rp hi h.p17, p18 := fun _ => set_same (by have := h.siz; show _ < t.size; omega), p19 := rp hi h.p19, p20 := rp hi h.p20, p21 := rp hi h.p21, p22 := rp hi h.p22, p23 := rp hi h.p23, p24 := rp hi h.p24 }⟩
          · have hi : 19 < d.size := by omega
            refine wpOp_idle rfl (unwanted_of (d := 32) rfl rfl (h.p13 (hpre _ rfl ⟨13, .guard⟩ (by simp) rfl)) (by decide)) ?_
            exact ⟨_, rfl, { bel := h.bel, siz := (by simpa using h.siz), kp := rk h.kp, k3 := rs h.k3, k5 := rs h.k5, k6 := rs h.k6, p0 := rp hi h.p0, p1 := rp hi h.p1, p2 := rp hi h.p2, p3 := rp hi h.p3, p4 := rp hi h.p4, p5 := rp hi h.p5, p6 := rp hi h.p6, p7 := rp hi h.p7, p8 := rp hi h.p8, p9 := rp hi h.p9, p10 := rp hi h.p10, p11 := rp hi h.p11, p12 := rp hi h.p12, p13 := rp hi h.p13, p14 := rp hi h.p14, p15 := rp hi h.p15, p16 := rp hi h.p16, p17 := rp hi h.p17, p18 := rp hi h.p18, p19 := fun _ => set_same (by have := h.siz; show _ < t.size; omega), p20 := rp hi h.p20, p21 := rp hi h.p21, p22 := rp hi h.p22, p23 := rp hi h.p23, p24 := rp hi h.p24 }⟩
          · have hi : 20 < d.size := by omega
            refine wpOp_idle rfl (unwanted_of (d := 32) rfl rfl (h.p13 (hpre _ rfl ⟨13, .guard⟩ (by simp) rfl)) (by decide)) ?_
            exact ⟨_, rfl, { bel := h.bel, siz := (by simpa using h.siz), kp := rk h.kp, k3 := rs h.k3, k5 := rs h.k5, k6 := rs h.k6, p0 := rp hi h.p0, p1 := rp hi h.p1, p2 := rp hi h.p2, p3 := rp hi h.p3, p4 := rp hi h.p4, p5 := rp hi h.p5, p6 := rp hi h.p6, p7 := rp hi h.p7, p8 := rp hi h.p8, p9 := rp hi h.p9, p10 := rp hi h.p10, p11 := rp hi h.p11, p12 := rp hi h.p12, p13 := rp hi h.p13, p14 := rp hi h.p14, p15 := rp hi h.p15, p16 := rp hi h.p16, p17 := rp hi h.p17, p18 := rp hi h.p18, p19 := rp hi h.p19, p20 := fun _ => set_same (by have := h.siz; show _ < t.size; omega), p21 := rp hi h.p21, p22 := rp hi h.p22, p23 := rp hi h.p23, p24 := rp hi h.p24 }⟩
          · have hi : 21 < d.size := by omega
            refine wpOp_idle rfl (unwanted_of (d := 32) rfl rfl (h.p13 (hpre _ rfl ⟨13, .guard⟩ (by simp) rfl)) (by decide)) ?_
            exact ⟨_, rfl, { bel := h.bel, siz := (by simpa using h.siz), kp := rk h.kp, k3 := rs h.k3, k5 := rs h.k5, k6 := rs h.k6, p0 := rp hi h.p0, p1 := rp hi h.p1, p2 := rp hi h.p2, p3 := rp hi h.p3, p4 := rp hi h.p4, p5 := rp hi h.p5, p6 := rp hi h.p6, p7 := rp hi h.p7, p8 := rp hi h.p8, p9 := rp hi h.p9, p10 := rp hi h.p10, p11 := rp hi h.p11, p12 := rp hi h.p12, p13 := rp hi h.p13, p14 := rp hi h.p14, p15 := rp hi h.p15, p16 := rp hi h.p16, p17 := rp hi h.p17, p18 := rp hi h.p18, p19 := rp hi h.p19, p20 := rp hi h.p20, p21 := fun _ => set_same (by have := h.siz; show _ < t.size; omega), p22 := rp hi h.p22, p23 := rp hi h.p23, p24 := rp hi h.p24 }⟩
          · have hi : 22 < d.size := by omega
            refine wpOp_idle rfl (unwanted_of (d := 32) rfl rfl (h.p13 (hpre _ rfl ⟨13, .guard⟩ (by simp) rfl)) (by decide)) ?_
            exact ⟨_, rfl, { bel := h.bel, siz := (by simpa using h.siz), kp := rk h.kp, k3 := rs h.k3, k5 := rs h.k5, k6 := rs h.k6, p0 := rp hi h.p0, p1 := rp hi h.p1, p2 := rp hi h.p2, p3 := rp hi h.p3, p4 := rp hi h.p4, p5 := rp hi h.p5, p6 := rp hi h.p6, p7 := rp hi h.p7, p8 := rp hi h.p8, p9 := rp hi h.p9, p10 := rp hi h.p10, p11 := rp hi h.p11, p12 := rp hi h.p12, p13 := rp hi h.p13, p14 := rp hi h.p14, p15 := rp hi h.p15, p16 := rp hi h.p16, p17 := rp hi h.p17, p18 := rp hi h.p18, p19 := rp hi h.p19, p20 := rp hi h.p20, p21 := rp hi h.p21, p22 := fun _ => set_same (by have := h.siz; show _ < t.size; omega), p23 := rp hi h.p23, p24 := rp hi h.p24 }⟩
          · have hi : 23 < d.size := by omega
            refine wpOp_idle rfl (unwanted_of (d := 32) rfl rfl (h.p13 (hpre _ rfl ⟨13, .guard⟩ (by simp) rfl)) (by decide)) ?_
            exact ⟨_, rfl, { bel := h.bel, siz := (by simpa using h.siz), kp := rk h.kp, k3 := rs h.k3, k5 := rs h.k5, k6 := rs h.k6, p0 := rp hi h.p0, p1 := rp hi h.p1, p2 := rp hi h.p2, p3 := rp hi h.p3, p4 := rp hi h.p4, p5 := rp hi h.p5, p6 := rp hi h.p6, p7 := rp hi h.p7, p8 := rp hi h.p8, p9 := rp hi h.p9, p10 := rp hi h.p10, p11 := rp hi h.p11, p12 := rp hi h.p12, p13 := rp hi h.p13, p14 := rp hi h.p14, p15 := rp hi h.p15, p16 := rp hi h.p16, p17 := rp hi h.p17, p18 := rp hi h.p18, p19 := rp hi h.p19, p20 := rp hi h.p20, p21 := rp hi h.p21, p22 := rp hi h.p22, p23 := fun _ => set_same (by have := h.siz; show _ < t.size; omega), p24 := rp hi h.p24 }⟩
          · have hi : 24 < d.size := by omega
            have e13 := h.p13 (hpre _ rfl ⟨13, .data⟩ (by simp) rfl)
            have e23 := h.p23 (hpre _ rfl ⟨23, .data⟩ (by simp) rfl)
            refine wpOp_plain rfl rfl ?_
            go_simp
            exact ⟨_, rfl, { bel := h.bel, siz := (by simpa using h.siz), kp := rk h.kp, k3 := rs h.k3, k5 := rs h.k5, k6 := rs h.k6, p0 := rp hi h.p0, p1 := rp hi h.p1, p2 := rp hi h.p2, p3 := rp hi h.p3, p4 := rp hi h.p4, p5 := rp hi h.p5, p6 := rp hi h.p6, p7 := rp hi h.p7, p8 := rp hi h.p8, p9 := rp hi h.p9, p10 := rp hi h.p10, p11 := rp hi h.p11, p12 := rp hi h.p12, p13 := rp hi h.p13, p14 := rp hi h.p14, p15 := rp hi h.p15, p16 := rp hi h.p16, p17 := rp hi h.p17, p18 := rp hi h.p18, p19 := rp hi h.p19, p20 := rp hi h.p20, p21 := rp hi h.p21, p22 := rp hi h.p22, p23 := rp hi h.p23, p24 := fun _ => set_same (by have := h.siz; omega) }⟩
        case genda =>
          intro d a wc hd hI hall
          obtain ⟨t, rfl, h⟩ := hI
          have hdn : ∀ j, j < 25 → dn d j := fun j hj => dn_all hd hall hj
          have hd : ∀ j, (_ : j < 25 := by decide) → dn d j := fun j hj => hdn j hj
          have hfe := frame_eq [(19, _), (20, _), (21, _), (22, _), (23, _), (24, _), (25, _), (26, _), (27, _), (28, _), (29, _), (30, _), (31, _), (32, _), (33, _), (34, _), (35, _), (36, _), (37, _), (38, _), (39, _), (40, _), (41, _), (42, _), (43, _)] (h.siz.trans rfl) h.kp rfl ⟨h.p0 (hd 0), h.p1 (hd 1), h.p2 (hd 2), h.p3 (hd 3), h.p4 (hd 4), h.p5 (hd 5), h.p6 (hd 6), h.p7 (hd 7), h.p8 (hd 8), h.p9 (hd 9), h.p10 (hd 10), h.p11 (hd 11), h.p12 (hd 12), h.p13 (hd 13), h.p14 (hd 14), h.p15 (hd 15), h.p16 (hd 16), h.p17 (hd 17), h.p18 (hd 18), h.p19 (hd 19), h.p20 (hd 20), h.p21 (hd 21), h.p22 (hd 22), h.p23 (hd 23), h.p24 (hd 24), trivial⟩
          simp only [List.foldl_cons, List.foldl_nil, List.setIfInBounds_toArray, List.set_cons_succ, List.set_cons_zero] at hfe
          have hbc := h.bel
          subst hfe
          clear h hdn hd hall
          have HBX := Lib.hid (HBS.out.trans (hbc.mono HBS.out.size))
          have HXR := Lib.hid (HRS.out.trans (hbc.mono HRS.out.size))
          have hbw := hbc
          clear hbc
          obtain ⟨n0, n1, n2, n3⟩ := CVS.out wc hbw
          have HOS : Hid ((wc.alloc (.cells #[.int .i64 kv, .string sv, .int .i64 lv, .int .i64 hv] 60)).ownsRow w2.heap.size 60 4 (.slice Av 0 cv) 0 (([] : List Sg.Value).flatMap encValue)) := Lib.hid (keep_own HOK.out (HXR.out.alloc HXR.out.size _))
          have HRD := Lib.hid (rd_one_value wc ⟨kv, sv, lv, hv⟩)
          have hk1 : 0 + 1 ≤ maxLen := by simp only [maxLen]; omega
          have hk2 : (0 + 1) * 40 ≤ 140737488355328 := by omega
          have hbase : w2.heap.size ≤ (wc.alloc (.cells #[.int .i64 kv, .string sv, .int .i64 lv, .int .i64 hv] 60)).heap.size := by have := HBX.out.size; simp; omega
          go_wp2_with (at_builtin; go_must (refine wpList_append_rd (enc := encValue) rfl (.tmp 58) (.tmp 60) _ rfl w2.heap.size 60 i1 _ 4 40 len_value one_value Tryz.underlying47 hi1 hz1 hs1' hb1' rfl (by decide) (.slice Av 0 cv) 0 (([] : List Sg.Value).flatMap encValue) rfl HOS.out _ (.slice (some ⟨wc.heap.size, 0, none⟩) 1 1) [⟨kv, sv, lv, hv⟩] rfl HRD.out hk1 hk2 hbase ?_))
          intro v8 w8 hown8 hg8 hat8
          have HB8 : Hid (Below w2.heap.size w2 w8) := Lib.hid ((HBX.out.alloc HBX.out.size _).grown hg8 hbase (fun q hq => (HOS.out.lt q hq).1))
          have HO8 : Hid (w8.ownsRow w2.heap.size 60 4 v8 (([] : List Sg.Value) ++ [(⟨kv, sv, lv, hv⟩ : Sg.Value)]).length ((([] : List Sg.Value) ++ [(⟨kv, sv, lv, hv⟩ : Sg.Value)]).flatMap encValue)) := Lib.hid (by simpa using hown8)
          clear hown8 hg8 hat8 n0 n1 n2 n3
          go_wp2_with fail
          go_roundg (S.length - (k + 1))
          case measure => omega
          case rel => exact ⟨k + 1, ([] : List Sg.Value) ++ [⟨kv, sv, lv, hv⟩], by omega, rfl, by go_num, HB8.out, HO8.out, HNX.out⟩
      · obtain ⟨ku, su, lu, hu⟩ := u
        obtain ⟨m, hm⟩ : ∃ m, m = r.length := ⟨_, rfl⟩
        have hl1 : (r ++ [(⟨ku, su, lu, hu⟩ : Sg.Value)]).length = m + 1 := by rw [List.length_append, hm]; rfl
        rw [hl1] at HOK hql
        obtain ⟨Av, cv, rfl⟩ := own_form HOK.out
        obtain ⟨b, rfl⟩ : ∃ b, Av = some ⟨b, 0, none⟩ := by
          rcases HOK.out.2 with ⟨-, e⟩ | ⟨g, cap, cur, e, -⟩
          · omega
          · injection e with e1
            exact ⟨g, e1⟩
        have huf : 0 ≤ hu ∧ hu ≤ 100 := hqf ⟨ku, su, lu, hu⟩ (by simp)
        have hbl := (HOK.out.lt b rfl).2
        have hcu := HOK.out.cells rfl
        have CUR : Hid (∀ W, Below wr.heap.size wr W → W.cell? ⟨b, m * 4, none⟩ = some (.int .i64 ku) ∧ W.cell? ⟨b, m * 4 + 1, none⟩ = some (.string su) ∧ W.cell? ⟨b, m * 4 + 2, none⟩ = some (.int .i64 lu) ∧ W.cell? ⟨b, m * 4 + 3, none⟩ = some (.int .i64 hu)) := Lib.hid fun W hW => by
          have hat := flat_at len_value (r ++ [(⟨ku, su, lu, hu⟩ : Sg.Value)]) m ⟨ku, su, lu, hu⟩ (by rw [hm]; simp)
          have c0 := hcu (m * 4) _ (hat 0 _ rfl)
          have c1 := hcu (m * 4 + 1) _ (hat 1 _ rfl)
          have c2 := hcu (m * 4 + 2) _ (hat 2 _ rfl)
          have c3 := hcu (m * 4 + 3) _ (hat 3 _ rfl)
          rw [addr_add, Nat.zero_add] at c0 c1 c2 c3
          exact ⟨(hW.cell (p := ⟨b, m * 4, none⟩) hbl).trans c0, (hW.cell (p := ⟨b, m * 4 + 1, none⟩) hbl).trans c1, (hW.cell (p := ⟨b, m * 4 + 2, none⟩) hbl).trans c2, (hW.cell (p := ⟨b, m * 4 + 3, none⟩) hbl).trans c3⟩
        have CV := Lib.hid fun (W : World) (hW : Below wr.heap.size wr W) (hW2 : Below wS.heap.size wS W) => CVS.out W hW2
        have CQ := Lib.hid fun (W : World) (hW : Below wS.heap.size wS W) => (⟨(CUR.out W (HRS.out.trans (hW.mono HRS.out.size))).1, (CUR.out W (HRS.out.trans (hW.mono HRS.out.size))).2.1, (CUR.out W (HRS.out.trans (hW.mono HRS.out.size))).2.2.1, (CUR.out W (HRS.out.trans (hW.mono HRS.out.size))).2.2.2, CVS.out W hW⟩ : W.cell? ⟨b, m * 4, none⟩ = some (.int .i64 ku) ∧ W.cell? ⟨b, m * 4 + 1, none⟩ = some (.string su) ∧ W.cell? ⟨b, m * 4 + 2, none⟩ = some (.int .i64 lu) ∧ W.cell? ⟨b, m * 4 + 3, none⟩ = some (.int .i64 hu) ∧ W.cell? ⟨wr.heap.size, 0, none⟩ = some (.int .i64 kv) ∧ W.cell? ⟨wr.heap.size, 1, none⟩ = some (.string sv) ∧ W.cell? ⟨wr.heap.size, 2, none⟩ = some (.int .i64 lv) ∧ W.cell? ⟨wr.heap.size, 3, none⟩ = some (.int .i64 hv))
        have hm0 : (0 : Int) ≤ (m : Int) := by omega
        have hm1 : (m : Int) < (m : Int) + 1 := by omega
        have HMR := Lib.hid hm
        clear hcu hqf hl1 hm
        by_cases hkd : ku = kv
        case neg =>
          have i1' : (ku == kv) = false := by rw [beq_eq_false_iff_ne]; exact hkd
          have HNX : Hid (Sg.mergeV (S.take (k + 1)) = (r ++ [⟨ku, su, lu, hu⟩]) ++ [⟨kv, sv, lv, hv⟩]) := Lib.hid (by rw [hnx]; exact Sg.mergeS_app fun h => hkd h.1.1)
          clear hnx hkd
          go_upto_region 8 with fail
          rw [← HWS.out]
          clear f0 f1 f2 f3
          refine wp_region_inv2T (fun T0 => TdbI T0 wS b m cv wr.heap.size ku su lu hu kv sv lv hv) (by kernel_rfl) (by kernel_rfl) ?g0b ?gstepb ?gendb
          case g0b =>
            have hno : ∀ j, ¬ dn (Array.replicate 25 false) j := by
              intro j; unfold dn; by_cases hj : j < 25 <;> simp [Array.getD, hj]
            have na : ∀ {j : Nat} {Z : Prop}, dn (Array.replicate 25 false) j → Z := fun hj => absurd hj (hno _)
            exact ⟨_, rfl, { bel := (Below.refl _ _).drew, siz := rfl, kp := fun _ _ => rfl, k3 := rfl, k5 := rfl, k6 := rfl, p0 := na, p1 := na, p2 := na, p3 := na, p4 := na, p5 := na, p6 := na, p7 := na, p8 := na, p9 := na, p10 := na, p11 := na, p12 := na, p13 := na, p14 := na, p15 := na, p16 := na, p17 := na, p18 := na, p19 := na, p20 := na, p21 := na, p22 := na, p23 := na, p24 := na }⟩
          case gstepb =>
            intro T0 d a wc i hd hI hi
            obtain ⟨hlt, hnd, hpre⟩ := mem_ready hi
            have hd' : d.size = 25 := hd
            have hin : i < 25 := hlt
            clear hi hd hlt
            obtain ⟨t, rfl, h⟩ := hI
            have hcs : i = 0 ∨ i = 1 ∨ i = 2 ∨ i = 3 ∨ i = 4 ∨ i = 5 ∨ i = 6 ∨ i = 7 ∨ i = 8 ∨ i = 9 ∨ i = 10 ∨ i = 11 ∨ i = 12 ∨ i = 13 ∨ i = 14 ∨ i = 15 ∨ i = 16 ∨ i = 17 ∨ i = 18 ∨ i = 19 ∨ i = 20 ∨ i = 21 ∨ i = 22 ∨ i = 23 ∨ i = 24 := by omega
            rcases hcs with rfl | rfl | rfl | rfl | rfl | rfl | rfl | rfl | rfl | rfl | rfl | rfl | rfl | rfl | rfl | rfl | rfl | rfl | rfl | rfl | rfl | rfl | rfl | rfl | rfl
            · have hi : 0 < d.size := by omega
              have q6 := h.k6
              refine wpOp_plain rfl rfl ?_
              go_simp
              exact ⟨_, rfl, { bel := h.bel, siz := (by simpa using h.siz), kp := rk h.kp, k3 := rs h.k3, k5 := rs h.k5, k6 := rs h.k6, p0 := fun _ => set_same (by have := h.siz; omega), p1 := rp hi h.p1, p2 := rp hi h.p2, p3 := rp hi h.p3, p4 := rp hi h.p4, p5 := rp hi h.p5, p6 := rp hi h.p6, p7 := rp hi h.p7, p8 := rp hi h.p8, p9 := rp hi h.p9, p10 := rp hi h.p10, p11 := rp hi h.p11, p12 := rp hi h.p12, p13 := rp hi h.p13, p14 := rp hi h.p14, p15 := rp hi h.p15, p16 := rp hi h.p16, p17 := rp hi h.p17, p18 := rp hi h.p18, p19 := rp hi h.p19, p20 := rp hi h.p20, p21 := rp hi h.p21, p22 := rp hi h.p22, p23 := rp hi h.p23, p24 := rp hi h.p24 }⟩
            · have hi : 1 < d.size := by omega
              have e0 := h.p0 (hpre _ rfl ⟨0, .data⟩ (by simp) rfl)
              refine wpOp_plain rfl rfl ?_
              go_simp
              exact ⟨_, rfl, { bel := h.bel, siz := (by simpa using h.siz), kp := rk h.kp, k3 := rs h.k3, k5 := rs h.k5, k6 := rs h.k6, p0 := rp hi h.p0, p1 := fun _ => set_same (by have := h.siz; omega), p2 := rp hi h.p2, p3 := rp hi h.p3, p4 := rp hi h.p4, p5 := rp hi h.p5, p6 := rp hi h.p6, p7 := rp hi h.p7, p8 := rp hi h.p8, p9 := rp hi h.p9, p10 := rp hi h.p10, p11 := rp hi h.p11, p12 := rp hi h.p12, p13 := rp hi h.p13, p14 := rp hi h.p14, p15 := rp hi h.p15, p16 := rp hi h.p16, p17 := rp hi h.p17, p18 := rp hi h.p18, p19 := rp hi h.p19, p20 := rp hi h.p20, p21 := rp hi h.p21, p22 := rp hi h.p22, p23 := rp hi h.p23, p24 := rp hi h.p24 }⟩
            · have hi : 2 < d.size := by omega
              have e1 := h.p1 (hpre _ rfl ⟨1, .data⟩ (by simp) rfl)
              refine wpOp_plain rfl rfl ?_
              go_simp
              exact ⟨_, rfl, { bel := h.bel, siz := (by simpa using h.siz), kp := rk h.kp, k3 := rs h.k3, k5 := rs h.k5, k6 := rs h.k6, p0 := rp hi h.p0, p1 := rp hi h.p1, p2 := fun _ => set_same (by have := h.siz; omega), p3 := rp hi h.p3, p4 := rp hi h.p4, p5 := rp hi h.p5, p6 := rp hi h.p6, p7 := rp hi h.p7, p8 := rp hi h.p8, p9 := rp hi h.p9, p10 := rp hi h.p10, p11 := rp hi h.p11, p12 := rp hi h.p12, p13 := rp hi h.p13, p14 := rp hi h.p14, p15 := rp hi h.p15, p16 := rp hi h.p16, p17 := rp hi h.p17, p18 := rp hi h.p18, p19 := rp hi h.p19, p20 := rp hi h.p20, p21 := rp hi h.p21, p22 := rp hi h.p22, p23 := rp hi h.p23, p24 := rp hi h.p24 }⟩
            · have hi : 3 < d.size := by omega
              have q3 := h.k3
              refine wpOp_guard rfl (wanted_of (d := 21) rfl rfl (h.p2 (hpre _ rfl ⟨2, .guard⟩ (by simp) rfl))) ?_
              go_simp
              exact ⟨_, rfl, { bel := h.bel, siz := (by simpa using h.siz), kp := rk h.kp, k3 := rs h.k3, k5 := rs h.k5, k6 := rs h.k6, p0 := rp hi h.p0, p1 := rp hi h.p1, p2 := rp hi h.p2, p3 := fun _ => set_same (by have := h.siz; omega), p4 := rp hi h.p4, p5 := rp hi h.p5, p6 := rp hi h.p6, p7 := rp hi h.p7, p8 := rp hi h.p8, p9 := rp hi h.p9, p10 := rp hi h.p10, p11 := rp hi h.p11, p12 := rp hi h.p12, p13 := rp hi h.p13, p14 := rp hi h.p14, p15 := rp hi h.p15, p16 := rp hi h.p16, p17 := rp hi h.p17, p18 := rp hi h.p18, p19 := rp hi h.p19, p20 := rp hi h.p20, p21 := rp hi h.p21, p22 := rp hi h.p22, p23 := rp hi h.p23, p24 := rp hi h.p24 }⟩
            · have hi : 4 < d.size := by omega
              have q6 := h.k6
              refine wpOp_guard rfl (wanted_of (d := 21) rfl rfl (h.p2 (hpre _ rfl ⟨2, .guard⟩ (by simp) rfl))) ?_
              go_simp
              exact ⟨_, rfl, { bel := h.bel, siz := (by simpa using h.siz), kp := rk h.kp, k3 := rs h.k3, k5 := rs h.k5, k6 := rs h.k6, p0 := rp hi h.p0, p1 := rp hi h.p1, p2 := rp hi h.p2, p3 := rp hi h.p3, p4 := fun _ => set_same (by have := h.siz; omega), p5 := rp hi h.p5, p6 := rp hi h.p6, p7 := rp hi h.p7, p8 := rp hi h.p8, p9 := rp hi h.p9, p10 := rp hi h.p10, p11 := rp hi h.p11, p12 := rp hi h.p12, p13 := rp hi h.p13, p14 := rp hi h.p14, p15 := rp hi h.p15, p16 := rp hi h.p16, p17 := rp hi h.p17, p18 := rp hi h.p18, p19 := rp hi h.p19, p20 := rp hi h.p20, p21 := rp hi h.p21, p22 := rp hi h.p22, p23 := rp hi h.p23, p24 := rp hi h.p24 }⟩
            · have hi : 5 < d.size := by omega
              have e4 := h.p4 (hpre _ rfl ⟨4, .data⟩ (by simp) rfl)
              refine wpOp_guard rfl (wanted_of (d := 21) rfl rfl (h.p2 (hpre _ rfl ⟨2, .guard⟩ (by simp) rfl))) ?_
              go_simp
              try simp (disch := omega) only [IntWalk.i64_in]
              exact ⟨_, rfl, { bel := h.bel, siz := (by simpa using h.siz), kp := rk h.kp, k3 := rs h.k3, k5 := rs h.k5, k6 := rs h.k6, p0 := rp hi h.p0, p1 := rp hi h.p1, p2 := rp hi h.p2, p3 := rp hi h.p3, p4 := rp hi h.p4, p5 := fun _ => set_same (by have := h.siz; omega), p6 := rp hi h.p6, p7 := rp hi h.p7, p8 := rp hi h.p8, p9 := rp hi h.p9, p10 := rp hi h.p10, p11 := rp hi h.p11, p12 := rp hi h.p12, p13 := rp hi h.p13, p14 := rp hi h.p14, p15 := rp hi h.p15, p16 := rp hi h.p16, p17 := rp hi h.p17, p18 := rp hi h.p18, p19 := rp hi h.p19, p20 := rp hi h.p20, p21 := rp hi h.p21, p22 := rp hi h.p22, p23 := rp hi h.p23, p24 := rp hi h.p24 }⟩
            · have hi : 6 < d.size := by omega
              have e3 := h.p3 (hpre _ rfl ⟨3, .data⟩ (by simp) rfl)
              have e5 := h.p5 (hpre _ rfl ⟨5, .data⟩ (by simp) rfl)
              refine wpOp_guard rfl (wanted_of (d := 21) rfl rfl (h.p2 (hpre _ rfl ⟨2, .guard⟩ (by simp) rfl))) ?_
              go_simp
              exact ⟨_, rfl, { bel := h.bel, siz := (by simpa using h.siz), kp := rk h.kp, k3 := rs h.k3, k5 := rs h.k5, k6 := rs h.k6, p0 := rp hi h.p0, p1 := rp hi h.p1, p2 := rp hi h.p2, p3 := rp hi h.p3, p4 := rp hi h.p4, p5 := rp hi h.p5, p6 := fun _ => set_same (by have := h.siz; omega), p7 := rp hi h.p7, p8 := rp hi h.p8, p9 := rp hi h.p9, p10 := rp hi h.p10, p11 := rp hi h.p11, p12 := rp hi h.p12, p13 := rp hi h.p13, p14 := rp hi h.p14, p15 := rp hi h.p15, p16 := rp hi h.p16, p17 := rp hi h.p17, p18 := rp hi h.p18, p19 := rp hi h.p19, p20 := rp hi h.p20, p21 := rp hi h.p21, p22 := rp hi h.p22, p23 := rp hi h.p23, p24 := rp hi h.p24 }⟩
            · have hi : 7 < d.size := by omega
              have e6 := h.p6 (hpre _ rfl ⟨6, .data⟩ (by simp) rfl)
              obtain ⟨m0, m1, m2, m3, n0, n1, n2, n3⟩ := CQ.out wc h.bel
              refine wpOp_guard rfl (wanted_of (d := 21) rfl rfl (h.p2 (hpre _ rfl ⟨2, .guard⟩ (by simp) rfl))) ?_
              go_simp
              exact ⟨_, rfl, { bel := h.bel, siz := (by simpa using h.siz), kp := rk h.kp, k3 := rs h.k3, k5 := rs h.k5, k6 := rs h.k6, p0 := rp hi h.p0, p1 := rp hi h.p1, p2 := rp hi h.p2, p3 := rp hi h.p3, p4 := rp hi h.p4, p5 := rp hi h.p5, p6 := rp hi h.p6, p7 := fun _ => set_same (by have := h.siz; omega), p8 := rp hi h.p8, p9 := rp hi h.p9, p10 := rp hi h.p10, p11 := rp hi h.p11, p12 := rp hi h.p12, p13 := rp hi h.p13, p14 := rp hi h.p14, p15 := rp hi h.p15, p16 := rp hi h.p16, p17 := rp hi h.p17, p18 := rp hi h.p18, p19 := rp hi h.p19, p20 := rp hi h.p20, p21 := rp hi h.p21, p22 := rp hi h.p22, p23 := rp hi h.p23, p24 := rp hi h.p24 }⟩
            · have hi : 8 < d.size := by omega
              have e7 := h.p7 (hpre _ rfl ⟨7, .data⟩ (by simp) rfl)
              refine wpOp_guard rfl (wanted_of (d := 21) rfl rfl (h.p2 (hpre _ rfl ⟨2, .guard⟩ (by simp) rfl))) ?_
              go_simp
              refine (gOf_any ⟨ku, su, lu, hu⟩ wc).mono ?_
              rintro e1 w1 ⟨rfl, hb⟩
              exact ⟨_, rfl, { bel := h.bel.trans (hb.mono h.bel.size), siz := (by simpa using h.siz), kp := rk h.kp, k3 := rs h.k3, k5 := rs h.k5, k6 := rs h.k6, p0 := rp hi h.p0, p1 := rp hi h.p1, p2 := rp hi h.p2, p3 := rp hi h.p3, p4 := rp hi h.p4, p5 := rp hi h.p5, p6 := rp hi h.p6, p7 := rp hi h.p7, p8 := fun _ => set_same (by have := h.siz; omega), p9 := rp hi h.p9, p10 := rp hi h.p10, p11 := rp hi h.p11, p12 := rp hi h.p12, p13 := rp hi h.p13, p14 := rp hi h.p14, p15 := rp hi h.p15, p16 := rp hi h.p16, p17 := rp hi h.p17, p18 := rp hi h.p18, p19 := rp hi h.p19, p20 := rp hi h.p20, p21 := rp hi h.p21, p22 := rp hi h.p22, p23 := rp hi h.p23, p24 := rp hi h.p24 }⟩
            · have hi : 9 < d.size := by omega
              have q5 := h.k5
              obtain ⟨m0, m1, m2, m3, n0, n1, n2, n3⟩ := CQ.out wc h.bel
              refine wpOp_guard rfl (wanted_of (d := 21) rfl rfl (h.p2 (hpre _ rfl ⟨2, .guard⟩ (by simp) rfl))) ?_
              go_simp
              exact ⟨_, rfl, { bel := h.bel, siz := (by simpa using h.siz), kp := rk h.kp, k3 := rs h.k3, k5 := rs h.k5, k6 := rs h.k6, p0 := rp hi h.p0, p1 := rp hi h.p1, p2 := rp hi h.p2, p3 := rp hi h.p3, p4 := rp hi h.p4, p5 := rp hi h.p5, p6 := rp hi h.p6, p7 := rp hi h.p7, p8 := rp hi h.p8, p9 := fun _ => set_same (by have := h.siz; omega), p10 := rp hi h.p10, p11 := rp hi h.p11, p12 := rp hi h.p12, p13 := rp hi h.p13, p14 := rp hi h.p14, p15 := rp hi h.p15, p16 := rp hi h.p16, p17 := rp hi h.p17, p18 := rp hi h.p18, p19 := rp hi h.p19, p20 := rp hi h.p20, p21 := rp hi h.p21, p22 := rp hi h.p22, p23 := rp hi h.p23, p24 := rp hi h.p24 }⟩
            · have hi : 10 < d.size := by omega
              have e9 := h.p9 (hpre _ rfl ⟨9, .data⟩ (by simp) rfl)
              refine wpOp_guard rfl (wanted_of (d := 21) rfl rfl (h.p2 (hpre _ rfl ⟨2, .guard⟩ (by simp) rfl))) ?_
              go_simp
              refine (gOf_any ⟨kv, sv, lv, hv⟩ wc).mono ?_
              rintro e1 w1 ⟨rfl, hb⟩
              exact ⟨_, rfl, { bel := h.bel.trans (hb.mono h.bel.size), siz := (by simpa using h.siz), kp := rk h.kp, k3 := rs h.k3, k5 := rs h.k5, k6 := rs h.k6, p0 := rp hi h.p0, p1 := rp hi h.p1, p2 := rp hi h.p2, p3 := rp hi h.p3, p4 := rp hi h.p4, p5 := rp hi h.p5, p6 := rp hi h.p6, p7 := rp hi h.p7, p8 := rp hi h.p8, p9 := rp hi h.p9, p10 := fun _ => set_same (by have := h.siz; omega), p11 := rp hi h.p11, p12 := rp hi h.p12, p13 := rp hi h.p13, p14 := rp hi h.p14, p15 := rp hi h.p15, p16 := rp hi h.p16, p17 := rp hi h.p17, p18 := rp hi h.p18, p19 := rp hi h.p19, p20 := rp hi h.p20, p21 := rp hi h.p21, p22 := rp hi h.p22, p23 := rp hi h.p23, p24 := rp hi h.p24 }⟩
            · have hi : 11 < d.size := by omega
              have e8 := h.p8 (hpre _ rfl ⟨8, .data⟩ (by simp) rfl)
              have e10 := h.p10 (hpre _ rfl ⟨10, .data⟩ (by simp) rfl)
              refine wpOp_guard rfl (wanted_of (d := 21) rfl rfl (h.p2 (hpre _ rfl ⟨2, .guard⟩ (by simp) rfl))) ?_
              go_simp
              exact ⟨_, rfl, { bel := h.bel, siz := (by simpa using h.siz), kp := rk h.kp, k3 := rs h.k3, k5 := rs h.k5, k6 := rs h.k6, p0 := rp hi h.p0, p1 := rp hi h.p1, p2 := rp hi h.p2, p3 := rp hi h.p3, p4 := rp hi h.p4, p5 := rp hi h.p5, p6 := rp hi h.p6, p7 := rp hi h.p7, p8 := rp hi h.p8, p9 := rp hi h.p9, p10 := rp hi h.p10, p11 := fun _ => set_same (by have := h.siz; omega), p12 := rp hi h.p12, p13 := rp hi h.p13, p14 := rp hi h.p14, p15 := rp hi h.p15, p16 := rp hi h.p16, p17 := rp hi h.p17, p18 := rp hi h.p18, p19 := rp hi h.p19, p20 := rp hi h.p20, p21 := rp hi h.p21, p22 := rp hi h.p22, p23 := rp hi h.p23, p24 := rp hi h.p24 }⟩
            · have hi : 12 < d.size := by omega
              have e2 := h.p2 (hpre _ rfl ⟨2, .data⟩ (by simp) rfl)
              have e11 := h.p11 (hpre _ rfl ⟨11, .data⟩ (by simp) rfl)
              refine wpOp_plain rfl rfl ?_
              go_simp
              exact ⟨_, rfl, { bel := h.bel, siz := (by simpa using h.siz), kp := rk h.kp, k3 := rs h.k3, k5 := rs h.k5, k6 := rs h.k6, p0 := rp hi h.p0, p1 := rp hi h.p1, p2 := rp hi h.p2, p3 := rp hi h.p3, p4 := rp hi h.p4, p5 := rp hi h.p5, p6 := rp hi h.p6, p7 := rp hi h.p7, p8 := rp hi h.p8, p9 := rp hi h.p9, p10 := rp hi h.p10, p11 := rp hi h.p11, p12 := fun _ => set_same (by have := h.siz; omega), p13 := rp hi h.p13, p14 := rp hi h.p14, p15 := rp hi h.p15, p16 := rp hi h.p16, p17 := rp hi h.p17, p18 := rp hi h.p18, p19 := rp hi h.p19, p20 := rp hi h.p20, p21 := rp hi h.p21, p22 := rp hi h.p22, p23 := rp hi h.p23, p24 := rp hi h.p24 }⟩
            · have hi : 13 < d.size := by omega
              have e12 := h.p12 (hpre _ rfl ⟨12, .data⟩ (by simp) rfl)
              refine wpOp_plain rfl rfl ?_
              go_simp
              exact ⟨_, rfl, { bel := h.bel, siz := (by simpa using h.siz), kp := rk h.kp, k3 := rs h.k3, k5 := rs h.k5, k6 := rs h.k6, p0 := rp hi h.p0, p1 := rp hi h.p1, p2 := rp hi h.p2, p3 := rp hi h.p3, p4 := rp hi h.p4, p5 := rp hi h.p5, p6 := rp hi h.p6, p7 := rp hi h.p7, p8 := rp hi h.p8, p9 := rp hi h.p9, p10 := rp hi h.p10, p11 := rp hi h.p11, p12 := rp hi h.p12, p13 := fun _ => set_same (by have := h.siz; omega), p14 := rp hi h.p14, p15 := rp hi h.p15, p16 := rp hi h.p16, p17 := rp hi h.p17, p18 := rp hi h.p18, p19 := rp hi h.p19, p20 := rp hi h.p20, p21 := rp hi h.p21, p22 := rp hi h.p22, p23 := rp hi h.p23, p24 := rp hi h.p24 }⟩
            · have hi : 14 < d.size := by omega
              refine wpOp_idle rfl (unwanted_of (d := 32) rfl rfl (h.p13 (hpre _ rfl ⟨13, .guard⟩ (by simp) rfl)) (by decide)) ?_
              exact ⟨_, rfl, { bel := h.bel, siz := (by simpa using h.siz), kp := rk h.kp, k3 := rs h.k3, k5 := rs h.k5, k6 := rs h.k6, p0 := rp hi h.p0, p1 := rp hi h.p1, p2 := rp hi h.p2, p3 := rp hi h.p3, p4 := rp hi h.p4, p5 := rp hi h.p5, p6 := rp hi h.p6, p7 := rp hi h.p7, p8 := rp hi h.p8, p9 := rp hi h.p9, p10 := rp hi h.p10, p11 := rp hi h.p11, p12 := rp hi h.p12, p13 := rp hi h.p13, p14 := fun _ => set_same (by have := h.siz; show _ < t.size; omega), p15 := rp hi h.p15, p16 := rp hi h.p16, p17 := rp hi h.p17, p18 := rp hi h.p18, p19 := rp hi h.p19, p20 := rp hi h.p20, p21 := rp hi h.p21, p22 := rp hi h.p22, p23 := rp hi h.p23, p24 := rp hi h.p24 }⟩
            · have hi : 15 < d.size := by omega
              refine wpOp_idle rfl (unwanted_of (d := 32) rfl rfl (h.p13 (hpre _ rfl ⟨13, .guard⟩ (by simp) rfl)) (by decide)) ?_
              exact ⟨_, rfl, { bel := h.bel, siz := (by simpa using h.siz), kp := rk h.kp, k3 := rs h.k3, k5 := rs h.k5, k6 := rs h.k6, p0 := rp hi h.p0, p1 := rp hi h.p1, p2 := rp hi h.p2, p3 := rp hi h.p3, p4 := rp hi h.p4, p5 := rp hi h.p5, p6 := rp hi h.p6, p7 := rp hi h.p7, p8 := rp hi h.p8, p9 := rp hi h.p9, p10 := rp hi h.p10, p11 := rp hi h.p11, p12 := rp hi h.p12, p13 := rp hi h.p13, p14 := rp hi h.p14, p15 := fun _ => set_same (by have := h.siz; show _ < t.size; omega), p16 := rp hi h.p16, p17 := rp hi h.p17, p18 := rp hi h.p18, p19 := rp hi h.p19, p20 := rp hi h.p20, p21 := rp hi h.p21, p22 := rp hi h.p22, p23 := rp hi h.p23, p24 := rp hi h.p24 }⟩
            · have hi : 16 < d.size := by omega
              refine wpOp_idle rfl (unwanted_of (d := 32) rfl rfl (h.p13 (hpre _ rfl ⟨13, .guard⟩ (by simp) rfl)) (by decide)) ?_
              exact ⟨_, rfl, { bel := h.bel, siz := (by simpa using h.siz), kp := rk h.kp, k3 := rs h.k3, k5 := rs h.k5, k6 := rs h.k6, p0 := rp hi h.p0, p1 := rp hi h.p1, p2 := rp hi h.p2, p3 := rp hi h.p3, p4 := rp hi h.p4, p5 := rp hi h.p5, p6 := rp hi h.p6, p7 := rp hi h.p7, p8 := rp hi h.p8, p9 := rp hi h.p9, p10 := rp hi h.p10, p11 := rp hi h.p11, p12 := rp hi h.p12, p13 := rp hi h.p13, p14 := rp hi h.p14, p15 := rp hi h.p15, p16 := fun _ => set_same (by have := h.siz; show _ < t.size; omega), p17 := rp hi h.p17, p18 := rp hi h.p18, p19 := rp hi h.p19, p20 := rp hi h.p20, p21 := rp hi h.p21, p22 := rp hi h.p22, p23 := rp hi h.p23, p24 := rp hi h.p24 }⟩
            · have hi : 17 < d.size := by omega
              refine wpOp_idle rfl (unwanted_of (d := 32) rfl rfl (h.p13 (hpre _ rfl ⟨13, .guard⟩ (by simp) rfl)) (by decide)) ?_
              exact ⟨_, rfl, { bel := h.bel, siz := (by simpa using h.siz), kp := rk h.kp, k3 := rs h.k3, k5 := rs h.k5, k6 := rs h.k6, p0 := rp hi h.p0, p1 := rp hi h.p1, p2 := rp hi h.p2, p3 := rp hi h.p3, p4 := rp hi h.p4, p5 := rp hi h.p5, p6 := rp hi h.p6, p7 := rp hi h.p7, p8 := rp hi h.p8, p9 := rp hi h.p9, p10 := rp hi h.p10, p11 := rp hi h.p11, p12 := rp hi h.p12, p13 := rp hi h.p13, p14 := rp hi h.p14, p15 := rp hi h.p15, p16 := rp hi h.p16, p17 := fun _ => set_same (by have := h.siz; show _ < t.size; omega), p18 := rp hi h.p18, p19 := rp hi h.p19, p20 := rp hi h.p20, p21 := rp hi h.p21, p22 := rp hi h.p22, p23 := rp hi h.p23, p24 := rp hi h.p24 }⟩
            · have hi : 18 < d.size := by omega
              refine wpOp_idle rfl (unwanted_of (d := 32) rfl rfl (h.p13 (hpre _ rfl ⟨13, .guard⟩ (by simp) rfl)) (by decide)) ?_
              exact ⟨_, rfl, { bel := h.bel, siz := (by simpa using h.siz), kp := rk h.kp, k3 := rs h.k3, k5 := rs h.k5, k6 := rs h.k6, p0 := rp hi h.p0, p1 := rp hi h.p1, p2 := rp hi h.p2, p3 := rp hi h.p3, p4 := rp hi h.p4, p5 := rp hi h.p5, p6 := rp hi h.p6, p7 := rp hi h.p7, p8 := rp hi h.p8, p9 := rp hi h.p9, p10 := rp hi h.p10, p11 := rp hi h.p11, p12 := rp hi h.p12, p13 := rp hi h.p13, p14 := rp hi h.p14, p15 := rp hi h.p15, p16 := rp hi h.p16, p17 := rp hi h.p17, p18 := fun _ => set_same (by have := h.siz; show _ < t.size; omega), p19 := rp hi h.p19, p20 := rp hi h.p20, p21 := rp hi h.p21, p22 := rp hi h.p22, p23 := rp hi h.p23, p24 := rp hi h.p24 }⟩
            · have hi : 19 < d.size := by omega
              refine wpOp_idle rfl (unwanted_of (d := 32) rfl rfl (h.p13 (hpre _ rfl ⟨13, .guard⟩ (by simp) rfl)) (by decide)) ?_
              exact ⟨_, rfl, { bel := h.bel, siz := (by simpa using h.siz), kp := rk h.kp, k3 := rs h.k3, k5 := rs h.k5, k6 := rs h.k6, p0 := rp hi h.p0, p1 := rp hi h.p1, p2 := rp hi h.p2, p3 := rp hi h.p3, p4 := rp hi h.p4, p5 := rp hi h.p5, p6 := rp hi h.p6, p7 := rp hi h.p7, p8 := rp hi h.p8, p9 := rp hi h.p9, p10 := rp hi h.p10, p11 := rp hi h.p11, p12 := rp hi h.p12, p13 := rp hi h.p13, p14 := rp hi h.p14, p15 := rp hi h.p15, p16 := rp hi h.p16, p17 := rp hi h.p17, p18 := rp hi h.p18, p19 := fun _ => set_same (by have := h.siz; show _ < t.size; omega), p20 := rp hi h.p20, p21 := rp hi h.p21, p22 := rp hi h.p22, p23 := rp hi h.p23, p24 := rp hi h.p24 }⟩
            · have hi : 20 < d.size := by omega
              refine wpOp_idle rfl (unwanted_of (d := 32) rfl rfl (h.p13 (hpre _ rfl ⟨13, .guard⟩ (by simp) rfl)) (by decide)) ?_
              exact ⟨_, rfl, { bel := h.bel, siz := (by simpa using h.siz), kp := rk h.kp, k3 := rs h.k3, k5 := rs h.k5, k6 := rs h.k6, p0 := rp hi h.p0, p1 := rp hi h.p1, p2 := rp hi h.p2, p3 := rp hi h.p3, p4 := rp hi h.p4, p5 := rp hi h.p5, p6 := rp hi h.p6, p7 := rp hi h.p7, p8 := rp hi h.p8, p9 := rp hi h.p9, p10 := rp hi h.p10, p11 := rp hi h.p11, p12 := rp hi h.p12, p13 := rp hi h.p13, p14 := rp hi h.p14, p15 := rp hi h.p15, p16 := rp hi h.p16, p17 := rp hi h.p17, p18 := rp hi h.p18, p19 := rp hi h.p19, p20 := fun _ => set_same (by have := h.siz; show _ < t.size; omega), p21 := rp hi h.p21, p22 := rp hi h.p22, p23 := rp hi h.p23, p24 := rp hi h.p24 }⟩
            · have hi : 21 < d.size := by omega
              refine wpOp_idle rfl (unwanted_of (d := 32) rfl rfl (h.p13 (hpre _ rfl ⟨13, .guard⟩ (by simp) rfl)) (by decide)) ?_
              exact ⟨_, rfl, { bel := h.bel, siz := (by simpa using h.siz), kp := rk h.kp, k3 := rs h.k3, k5 := rs h.k5, k6 := rs h.k6, p0 := rp hi h.p0, p1 := rp hi h.p1, p2 := rp hi h.p2, p3 := rp hi h.p3, p4 := rp hi h.p4, p5 := rp hi h.p5, p6 := rp hi h.p6, p7 := rp hi h.p7, p8 := rp hi h.p8, p9 := rp hi h.p9, p10 := rp hi h.p10, p11 := rp hi h.p11, p12 := rp hi h.p12, p13 := rp hi h.p13, p14 := rp hi h.p14, p15 := rp hi h.p15, p16 := rp hi h.p16, p17 := rp hi h.p17, p18 := rp hi h.p18, p19 := rp hi h.p19, p20 := rp hi h.p20, p21 := fun _ => set_same (by have := h.siz; show _ < t.size; omega), p22 := rp hi h.p22, p23 := rp hi h.p23, p24 := rp hi h.p24 }⟩
            · have hi : 22 < d.size := by omega
              refine wpOp_idle rfl (unwanted_of (d := 32) rfl rfl (h.p13 (hpre _ rfl ⟨13, .guard⟩ (by simp) rfl)) (by decide)) ?_
              exact ⟨_, rfl, { bel := h.bel, siz := (by simpa using h.siz), kp := rk h.kp, k3 := rs h.k3, k5 := rs h.k5, k6 := rs h.k6, p0 := rp hi h.p0, p1 := rp hi h.p1, p2 := rp hi h.p2, p3 := rp hi h.p3, p4 := rp hi h.p4, p5 := rp hi h.p5, p6 := rp hi h.p6, p7 := rp hi h.p7, p8 := rp hi h.p8, p9 := rp hi h.p9, p10 := rp hi h.p10, p11 := rp hi h.p11, p12 := rp hi h.p12, p13 := rp hi h.p13, p14 := rp hi h.p14, p15 := rp hi h.p15, p16 := rp hi h.p16, p17 := rp hi h.p17, p18 := rp hi h.p18, p19 := rp hi h.p19, p20 := rp hi h.p20, p21 := rp hi h.p21, p22 := fun _ => set_same (by have := h.siz; show _ < t.size; omega), p23 := rp hi h.p23, p24 := rp hi h.p24 }⟩
            · have hi : 23 < d.size := by omega
              refine wpOp_idle rfl (unwanted_of (d := 32) rfl rfl (h.p13 (hpre _ rfl ⟨13, .guard⟩ (by simp) rfl)) (by decide)) ?_
              exact ⟨_, rfl, { bel := h.bel, siz := (by simpa using h.siz), kp := rk h.kp, k3 := rs h.k3, k5 := rs h.k5, k6 := rs h.k6, p0 := rp hi h.p0, p1 := rp hi h.p1, p2 := rp hi h.p2, p3 := rp hi h.p3, p4 := rp hi h.p4, p5 := rp hi h.p5, p6 := rp hi h.p6, p7 := rp hi h.p7, p8 := rp hi h.p8, p9 := rp hi h.p9, p10 := rp hi h.p10, p11 := rp hi h.p11, p12 := rp hi h.p12, p13 := rp hi h.p13, p14 := rp hi h.p14, p15 := rp hi h.p15, p16 := rp hi h.p16, p17 := rp hi h.p17, p18 := rp hi h.p18, p19 := rp hi h.p19, p20 := rp hi h.p20, p21 := rp hi h.p21, p22 := rp hi h.p22, p23 := fun _ => set_same (by have := h.siz; show _ < t.size; omega), p24 := rp hi h.p24 }⟩
            · have hi : 24 < d.size := by omega
              have e13 := h.p13 (hpre _ rfl ⟨13, .data⟩ (by simp) rfl)
              have e23 := h.p23 (hpre _ rfl ⟨23, .data⟩ (by simp) rfl)
              refine wpOp_plain rfl rfl ?_
              go_simp
              exact ⟨_, rfl, { bel := h.bel, siz := (by simpa using h.siz), kp := rk h.kp, k3 := rs h.k3, k5 := rs h.k5, k6 := rs h.k6, p0 := rp hi h.p0, p1 := rp hi h.p1, p2 := rp hi h.p2, p3 := rp hi h.p3, p4 := rp hi h.p4, p5 := rp hi h.p5, p6 := rp hi h.p6, p7 := rp hi h.p7, p8 := rp hi h.p8, p9 := rp hi h.p9, p10 := rp hi h.p10, p11 := rp hi h.p11, p12 := rp hi h.p12, p13 := rp hi h.p13, p14 := rp hi h.p14, p15 := rp hi h.p15, p16 := rp hi h.p16, p17 := rp hi h.p17, p18 := rp hi h.p18, p19 := rp hi h.p19, p20 := rp hi h.p20, p21 := rp hi h.p21, p22 := rp hi h.p22, p23 := rp hi h.p23, p24 := fun _ => set_same (by have := h.siz; omega) }⟩
          case gendb =>
            intro d a wc hd hI hall
            obtain ⟨t, rfl, h⟩ := hI
            have hdn : ∀ j, j < 25 → dn d j := fun j hj => dn_all hd hall hj
            have hd : ∀ j, (_ : j < 25 := by decide) → dn d j := fun j hj => hdn j hj
            have hfe := frame_eq [(19, _), (20, _), (21, _), (22, _), (23, _), (24, _), (25, _), (26, _), (27, _), (28, _), (29, _), (30, _), (31, _), (32, _), (33, _), (34, _), (35, _), (36, _), (37, _), (38, _), (39, _), (40, _), (41, _), (42, _), (43, _)] (h.siz.trans rfl) h.kp rfl ⟨h.p0 (hd 0), h.p1 (hd 1), h.p2 (hd 2), h.p3 (hd 3), h.p4 (hd 4), h.p5 (hd 5), h.p6 (hd 6), h.p7 (hd 7), h.p8 (hd 8), h.p9 (hd 9), h.p10 (hd 10), h.p11 (hd 11), h.p12 (hd 12), h.p13 (hd 13), h.p14 (hd 14), h.p15 (hd 15), h.p16 (hd 16), h.p17 (hd 17), h.p18 (hd 18), h.p19 (hd 19), h.p20 (hd 20), h.p21 (hd 21), h.p22 (hd 22), h.p23 (hd 23), h.p24 (hd 24), trivial⟩
            simp only [List.foldl_cons, List.foldl_nil, List.setIfInBounds_toArray, List.set_cons_succ, List.set_cons_zero] at hfe
            have hbc := h.bel
            subst hfe
            clear h hdn hd hall
            have HBX := Lib.hid (HBS.out.trans (hbc.mono HBS.out.size))
            have HXR := Lib.hid (HRS.out.trans (hbc.mono HRS.out.size))
            have hbw := hbc
            clear hbc
            obtain ⟨n0, n1, n2, n3⟩ := CVS.out wc hbw
            have HOS : Hid ((wc.alloc (.cells #[.int .i64 kv, .string sv, .int .i64 lv, .int .i64 hv] 60)).ownsRow w2.heap.size 60 4 (.slice (some ⟨b, 0, none⟩) (m + 1) cv) (m + 1) ((r ++ [(⟨ku, su, lu, hu⟩ : Sg.Value)]).flatMap encValue)) := Lib.hid (keep_own HOK.out (HXR.out.alloc HXR.out.size _))
            have HRD := Lib.hid (rd_one_value wc ⟨kv, sv, lv, hv⟩)
            have hk1 : (m + 1) + 1 ≤ maxLen := by simp only [maxLen]; omega
            have hk2 : ((m + 1) + 1) * 40 ≤ 140737488355328 := by omega
            have hbase : w2.heap.size ≤ (wc.alloc (.cells #[.int .i64 kv, .string sv, .int .i64 lv, .int .i64 hv] 60)).heap.size := by have := HBX.out.size; simp; omega
            go_wp2_with (at_builtin; go_must (refine wpList_append_rd (enc := encValue) rfl (.tmp 58) (.tmp 60) _ rfl w2.heap.size 60 i1 _ 4 40 len_value one_value Tryz.underlying47 hi1 hz1 hs1' hb1' rfl (by decide) (.slice (some ⟨b, 0, none⟩) (m + 1) cv) (m + 1) ((r ++ [(⟨ku, su, lu, hu⟩ : Sg.Value)]).flatMap encValue) rfl HOS.out _ (.slice (some ⟨wc.heap.size, 0, none⟩) 1 1) [⟨kv, sv, lv, hv⟩] rfl HRD.out hk1 hk2 hbase ?_))
            intro v8 w8 hown8 hg8 hat8
            have HB8 : Hid (Below w2.heap.size w2 w8) := Lib.hid ((HBX.out.alloc HBX.out.size _).grown hg8 hbase (fun q hq => (HOS.out.lt q hq).1))
            have HO8 := Lib.hid (own_valueM HMR.out hown8)
            clear hown8 hg8 hat8 n0 n1 n2 n3
            go_wp2_with fail
            go_roundg (S.length - (k + 1))
            case measure => omega
            case rel => exact ⟨k + 1, (r ++ [(⟨ku, su, lu, hu⟩ : Sg.Value)]) ++ [⟨kv, sv, lv, hv⟩], by omega, rfl, by go_num, HB8.out, HO8.out, HNX.out⟩
        by_cases htx : su = sv
        case neg =>
          have i2' : (su.toList == sv.toList) = false := Lx.toList_ne htx
          have HNX : Hid (Sg.mergeV (S.take (k + 1)) = (r ++ [⟨ku, su, lu, hu⟩]) ++ [⟨kv, sv, lv, hv⟩]) := Lib.hid (by rw [hnx]; exact Sg.mergeS_app fun h => htx h.1.2)
          clear hnx htx
          subst hkd
          go_upto_region 8 with fail
          rw [← HWS.out]
          clear f0 f1 f2 f3
          refine wp_region_inv2T (fun T0 => TdbI T0 wS b m cv wr.heap.size ku su lu hu ku sv lv hv) (by kernel_rfl) (by kernel_rfl) ?g0b ?gstepb ?gendb
          case g0b =>
            have hno : ∀ j, ¬ dn (Array.replicate 25 false) j := by
              intro j; unfold dn; by_cases hj : j < 25 <;> simp [Array.getD, hj]
            have na : ∀ {j : Nat} {Z : Prop}, dn (Array.replicate 25 false) j → Z := fun hj => absurd hj (hno _)
            exact ⟨_, rfl, { bel := (Below.refl _ _).drew, siz := rfl, kp := fun _ _ => rfl, k3 := rfl, k5 := rfl, k6 := rfl, p0 := na, p1 := na, p2 := na, p3 := na, p4 := na, p5 := na, p6 := na, p7 := na, p8 := na, p9 := na, p10 := na, p11 := na, p12 := na, p13 := na, p14 := na, p15 := na, p16 := na, p17 := na, p18 := na, p19 := na, p20 := na, p21 := na, p22 := na, p23 := na, p24 := na }⟩
          case gstepb =>
            intro T0 d a wc i hd hI hi
            obtain ⟨hlt, hnd, hpre⟩ := mem_ready hi
            have hd' : d.size = 25 := hd
            have hin : i < 25 := hlt
            clear hi hd hlt
            obtain ⟨t, rfl, h⟩ := hI
            have hcs : i = 0 ∨ i = 1 ∨ i = 2 ∨ i = 3 ∨ i = 4 ∨ i = 5 ∨ i = 6 ∨ i = 7 ∨ i = 8 ∨ i = 9 ∨ i = 10 ∨ i = 11 ∨ i = 12 ∨ i = 13 ∨ i = 14 ∨ i = 15 ∨ i = 16 ∨ i = 17 ∨ i = 18 ∨ i = 19 ∨ i = 20 ∨ i = 21 ∨ i = 22 ∨ i = 23 ∨ i = 24 := by omega
            rcases hcs with rfl | rfl | rfl | rfl | rfl | rfl | rfl | rfl | rfl | rfl | rfl | rfl | rfl | rfl | rfl | rfl | rfl | rfl | rfl | rfl | rfl | rfl | rfl | rfl | rfl
            · have hi : 0 < d.size := by omega
              have q6 := h.k6
              refine wpOp_plain rfl rfl ?_
              go_simp
              exact ⟨_, rfl, { bel := h.bel, siz := (by simpa using h.siz), kp := rk h.kp, k3 := rs h.k3, k5 := rs h.k5, k6 := rs h.k6, p0 := fun _ => set_same (by have := h.siz; omega), p1 := rp hi h.p1, p2 := rp hi h.p2, p3 := rp hi h.p3, p4 := rp hi h.p4, p5 := rp hi h.p5, p6 := rp hi h.p6, p7 := rp hi h.p7, p8 := rp hi h.p8, p9 := rp hi h.p9, p10 := rp hi h.p10, p11 := rp hi h.p11, p12 := rp hi h.p12, p13 := rp hi h.p13, p14 := rp hi h.p14, p15 := rp hi h.p15, p16 := rp hi h.p16, p17 := rp hi h.p17, p18 := rp hi h.p18, p19 := rp hi h.p19, p20 := rp hi h.p20, p21 := rp hi h.p21, p22 := rp hi h.p22, p23 := rp hi h.p23, p24 := rp hi h.p24 }⟩
            · have hi : 1 < d.size := by omega
              have e0 := h.p0 (hpre _ rfl ⟨0, .data⟩ (by simp) rfl)
              refine wpOp_plain rfl rfl ?_
              go_simp
              exact ⟨_, rfl, { bel := h.bel, siz := (by simpa using h.siz), kp := rk h.kp, k3 := rs h.k3, k5 := rs h.k5, k6 := rs h.k6, p0 := rp hi h.p0, p1 := fun _ => set_same (by have := h.siz; omega), p2 := rp hi h.p2, p3 := rp hi h.p3, p4 := rp hi h.p4, p5 := rp hi h.p5, p6 := rp hi h.p6, p7 := rp hi h.p7, p8 := rp hi h.p8, p9 := rp hi h.p9, p10 := rp hi h.p10, p11 := rp hi h.p11, p12 := rp hi h.p12, p13 := rp hi h.p13, p14 := rp hi h.p14, p15 := rp hi h.p15, p16 := rp hi h.p16, p17 := rp hi h.p17, p18 := rp hi h.p18, p19 := rp hi h.p19, p20 := rp hi h.p20, p21 := rp hi h.p21, p22 := rp hi h.p22, p23 := rp hi h.p23, p24 := rp hi h.p24 }⟩
            · have hi : 2 < d.size := by omega
              have e1 := h.p1 (hpre _ rfl ⟨1, .data⟩ (by simp) rfl)
              refine wpOp_plain rfl rfl ?_
              go_simp
              exact ⟨_, rfl, { bel := h.bel, siz := (by simpa using h.siz), kp := rk h.kp, k3 := rs h.k3, k5 := rs h.k5, k6 := rs h.k6, p0 := rp hi h.p0, p1 := rp hi h.p1, p2 := fun _ => set_same (by have := h.siz; omega), p3 := rp hi h.p3, p4 := rp hi h.p4, p5 := rp hi h.p5, p6 := rp hi h.p6, p7 := rp hi h.p7, p8 := rp hi h.p8, p9 := rp hi h.p9, p10 := rp hi h.p10, p11 := rp hi h.p11, p12 := rp hi h.p12, p13 := rp hi h.p13, p14 := rp hi h.p14, p15 := rp hi h.p15, p16 := rp hi h.p16, p17 := rp hi h.p17, p18 := rp hi h.p18, p19 := rp hi h.p19, p20 := rp hi h.p20, p21 := rp hi h.p21, p22 := rp hi h.p22, p23 := rp hi h.p23, p24 := rp hi h.p24 }⟩
            · have hi : 3 < d.size := by omega
              have q3 := h.k3
              refine wpOp_guard rfl (wanted_of (d := 21) rfl rfl (h.p2 (hpre _ rfl ⟨2, .guard⟩ (by simp) rfl))) ?_
              go_simp
              exact ⟨_, rfl, { bel := h.bel, siz := (by simpa using h.siz), kp := rk h.kp, k3 := rs h.k3, k5 := rs h.k5, k6 := rs h.k6, p0 := rp hi h.p0, p1 := rp hi h.p1, p2 := rp hi h.p2, p3 := fun _ => set_same (by have := h.siz; omega), p4 := rp hi h.p4, p5 := rp hi h.p5, p6 := rp hi h.p6, p7 := rp hi h.p7, p8 := rp hi h.p8, p9 := rp hi h.p9, p10 := rp hi h.p10, p11 := rp hi h.p11, p12 := rp hi h.p12, p13 := rp hi h.p13, p14 := rp hi h.p14, p15 := rp hi h.p15, p16 := rp hi h.p16, p17 := rp hi h.p17, p18 := rp hi h.p18, p19 := rp hi h.p19, p20 := rp hi h.p20, p21 := rp hi h.p21, p22 := rp hi h.p22, p23 := rp hi h.p23, p24 := rp hi h.p24 }⟩
            · have hi : 4 < d.size := by omega
              have q6 := h.k6
              refine wpOp_guard rfl (wanted_of (d := 21) rfl rfl (h.p2 (hpre _ rfl ⟨2, .guard⟩ (by simp) rfl))) ?_
              go_simp
              exact ⟨_, rfl, { bel := h.bel, siz := (by simpa using h.siz), kp := rk h.kp, k3 := rs h.k3, k5 := rs h.k5, k6 := rs h.k6, p0 := rp hi h.p0, p1 := rp hi h.p1, p2 := rp hi h.p2, p3 := rp hi h.p3, p4 := fun _ => set_same (by have := h.siz; omega), p5 := rp hi h.p5, p6 := rp hi h.p6, p7 := rp hi h.p7, p8 := rp hi h.p8, p9 := rp hi h.p9, p10 := rp hi h.p10, p11 := rp hi h.p11, p12 := rp hi h.p12, p13 := rp hi h.p13, p14 := rp hi h.p14, p15 := rp hi h.p15, p16 := rp hi h.p16, p17 := rp hi h.p17, p18 := rp hi h.p18, p19 := rp hi h.p19, p20 := rp hi h.p20, p21 := rp hi h.p21, p22 := rp hi h.p22, p23 := rp hi h.p23, p24 := rp hi h.p24 }⟩
            · have hi : 5 < d.size := by omega
              have e4 := h.p4 (hpre _ rfl ⟨4, .data⟩ (by simp) rfl)
              refine wpOp_guard rfl (wanted_of (d := 21) rfl rfl (h.p2 (hpre _ rfl ⟨2, .guard⟩ (by simp) rfl))) ?_
              go_simp
              try simp (disch := omega) only [IntWalk.i64_in]
              exact ⟨_, rfl, { bel := h.bel, siz := (by simpa using h.siz), kp := rk h.kp, k3 := rs h.k3, k5 := rs h.k5, k6 := rs h.k6, p0 := rp hi h.p0, p1 := rp hi h.p1, p2 := rp hi h.p2, p3 := rp hi h.p3, p4 := rp hi h.p4, p5 := fun _ => set_same (by have := h.siz; omega), p6 := rp hi h.p6, p7 := rp hi h.p7, p8 := rp hi h.p8, p9 := rp hi h.p9, p10 := rp hi h.p10, p11 := rp hi h.p11, p12 := rp hi h.p12, p13 := rp hi h.p13, p14 := rp hi h.p14, p15 := rp hi h.p15, p16 := rp hi h.p16, p17 := rp hi h.p17, p18 := rp hi h.p18, p19 := rp hi h.p19, p20 := rp hi h.p20, p21 := rp hi h.p21, p22 := rp hi h.p22, p23 := rp hi h.p23, p24 := rp hi h.p24 }⟩
            · have hi : 6 < d.size := by omega
              have e3 := h.p3 (hpre _ rfl ⟨3, .data⟩ (by simp) rfl)
              have e5 := h.p5 (hpre _ rfl ⟨5, .data⟩ (by simp) rfl)
              refine wpOp_guard rfl (wanted_of (d := 21) rfl rfl (h.p2 (hpre _ rfl ⟨2, .guard⟩ (by simp) rfl))) ?_
              go_simp
              exact ⟨_, rfl, { bel := h.bel, siz := (by simpa using h.siz), kp := rk h.kp, k3 := rs h.k3, k5 := rs h.k5, k6 := rs h.k6, p0 := rp hi h.p0, p1 := rp hi h.p1, p2 := rp hi h.p2, p3 := rp hi h.p3, p4 := rp hi h.p4, p5 := rp hi h.p5, p6 := fun _ => set_same (by have := h.siz; omega), p7 := rp hi h.p7, p8 := rp hi h.p8, p9 := rp hi h.p9, p10 := rp hi h.p10, p11 := rp hi h.p11, p12 := rp hi h.p12, p13 := rp hi h.p13, p14 := rp hi h.p14, p15 := rp hi h.p15, p16 := rp hi h.p16, p17 := rp hi h.p17, p18 := rp hi h.p18, p19 := rp hi h.p19, p20 := rp hi h.p20, p21 := rp hi h.p21, p22 := rp hi h.p22, p23 := rp hi h.p23, p24 := rp hi h.p24 }⟩
            · have hi : 7 < d.size := by omega
              have e6 := h.p6 (hpre _ rfl ⟨6, .data⟩ (by simp) rfl)
              obtain ⟨m0, m1, m2, m3, n0, n1, n2, n3⟩ := CQ.out wc h.bel
              refine wpOp_guard rfl (wanted_of (d := 21) rfl rfl (h.p2 (hpre _ rfl ⟨2, .guard⟩ (by simp) rfl))) ?_
              go_simp
              exact ⟨_, rfl, { bel := h.bel, siz := (by simpa using h.siz), kp := rk h.kp, k3 := rs h.k3, k5 := rs h.k5, k6 := rs h.k6, p0 := rp hi h.p0, p1 := rp hi h.p1, p2 := rp hi h.p2, p3 := rp hi h.p3, p4 := rp hi h.p4, p5 := rp hi h.p5, p6 := rp hi h.p6, p7 := fun _ => set_same (by have := h.siz; omega), p8 := rp hi h.p8, p9 := rp hi h.p9, p10 := rp hi h.p10, p11 := rp hi h.p11, p12 := rp hi h.p12, p13 := rp hi h.p13, p14 := rp hi h.p14, p15 := rp hi h.p15, p16 := rp hi h.p16, p17 := rp hi h.p17, p18 := rp hi h.p18, p19 := rp hi h.p19, p20 := rp hi h.p20, p21 := rp hi h.p21, p22 := rp hi h.p22, p23 := rp hi h.p23, p24 := rp hi h.p24 }⟩
            · have hi : 8 < d.size := by omega
              have e7 := h.p7 (hpre _ rfl ⟨7, .data⟩ (by simp) rfl)
              refine wpOp_guard rfl (wanted_of (d := 21) rfl rfl (h.p2 (hpre _ rfl ⟨2, .guard⟩ (by simp) rfl))) ?_
              go_simp
              refine (gOf_any ⟨ku, su, lu, hu⟩ wc).mono ?_
              rintro e1 w1 ⟨rfl, hb⟩
              exact ⟨_, rfl, { bel := h.bel.trans (hb.mono h.bel.size), siz := (by simpa using h.siz), kp := rk h.kp, k3 := rs h.k3, k5 := rs h.k5, k6 := rs h.k6, p0 := rp hi h.p0, p1 := rp hi h.p1, p2 := rp hi h.p2, p3 := rp hi h.p3, p4 := rp hi h.p4, p5 := rp hi h.p5, p6 := rp hi h.p6, p7 := rp hi h.p7, p8 := fun _ => set_same (by have := h.siz; omega), p9 := rp hi h.p9, p10 := rp hi h.p10, p11 := rp hi h.p11, p12 := rp hi h.p12, p13 := rp hi h.p13, p14 := rp hi h.p14, p15 := rp hi h.p15, p16 := rp hi h.p16, p17 := rp hi h.p17, p18 := rp hi h.p18, p19 := rp hi h.p19, p20 := rp hi h.p20, p21 := rp hi h.p21, p22 := rp hi h.p22, p23 := rp hi h.p23, p24 := rp hi h.p24 }⟩
            · have hi : 9 < d.size := by omega
              have q5 := h.k5
              obtain ⟨m0, m1, m2, m3, n0, n1, n2, n3⟩ := CQ.out wc h.bel
              refine wpOp_guard rfl (wanted_of (d := 21) rfl rfl (h.p2 (hpre _ rfl ⟨2, .guard⟩ (by simp) rfl))) ?_
              go_simp
              exact ⟨_, rfl, { bel := h.bel, siz := (by simpa using h.siz), kp := rk h.kp, k3 := rs h.k3, k5 := rs h.k5, k6 := rs h.k6, p0 := rp hi h.p0, p1 := rp hi h.p1, p2 := rp hi h.p2, p3 := rp hi h.p3, p4 := rp hi h.p4, p5 := rp hi h.p5, p6 := rp hi h.p6, p7 := rp hi h.p7, p8 := rp hi h.p8, p9 := fun _ => set_same (by have := h.siz; omega), p10 := rp hi h.p10, p11 := rp hi h.p11, p12 := rp hi h.p12, p13 := rp hi h.p13, p14 := rp hi h.p14, p15 := rp hi h.p15, p16 := rp hi h.p16, p17 := rp hi h.p17, p18 := rp hi h.p18, p19 := rp hi h.p19, p20 := rp hi h.p20, p21 := rp hi h.p21, p22 := rp hi h.p22, p23 := rp hi h.p23, p24 := rp hi h.p24 }⟩
            · have hi : 10 < d.size := by omega
              have e9 := h.p9 (hpre _ rfl ⟨9, .data⟩ (by simp) rfl)
              refine wpOp_guard rfl (wanted_of (d := 21) rfl rfl (h.p2 (hpre _ rfl ⟨2, .guard⟩ (by simp) rfl))) ?_
              go_simp
              refine (gOf_any ⟨ku, sv, lv, hv⟩ wc).mono ?_
              rintro e1 w1 ⟨rfl, hb⟩
              exact ⟨_, rfl, { bel := h.bel.trans (hb.mono h.bel.size), siz := (by simpa using h.siz), kp := rk h.kp, k3 := rs h.k3, k5 := rs h.k5, k6 := rs h.k6, p0 := rp hi h.p0, p1 := rp hi h.p1, p2 := rp hi h.p2, p3 := rp hi h.p3, p4 := rp hi h.p4, p5 := rp hi h.p5, p6 := rp hi h.p6, p7 := rp hi h.p7, p8 := rp hi h.p8, p9 := rp hi h.p9, p10 := fun _ => set_same (by have := h.siz; omega), p11 := rp hi h.p11, p12 := rp hi h.p12, p13 := rp hi h.p13, p14 := rp hi h.p14, p15 := rp hi h.p15, p16 := rp hi h.p16, p17 := rp hi h.p17, p18 := rp hi h.p18, p19 := rp hi h.p19, p20 := rp hi h.p20, p21 := rp hi h.p21, p22 := rp hi h.p22, p23 := rp hi h.p23, p24 := rp hi h.p24 }⟩
            · have hi : 11 < d.size := by omega
              have e8 := h.p8 (hpre _ rfl ⟨8, .data⟩ (by simp) rfl)
              have e10 := h.p10 (hpre _ rfl ⟨10, .data⟩ (by simp) rfl)
              refine wpOp_guard rfl (wanted_of (d := 21) rfl rfl (h.p2 (hpre _ rfl ⟨2, .guard⟩ (by simp) rfl))) ?_
              go_simp
              exact ⟨_, rfl, { bel := h.bel, siz := (by simpa using h.siz), kp := rk h.kp, k3 := rs h.k3, k5 := rs h.k5, k6 := rs h.k6, p0 := rp hi h.p0, p1 := rp hi h.p1, p2 := rp hi h.p2, p3 := rp hi h.p3, p4 := rp hi h.p4, p5 := rp hi h.p5, p6 := rp hi h.p6, p7 := rp hi h.p7, p8 := rp hi h.p8, p9 := rp hi h.p9, p10 := rp hi h.p10, p11 := fun _ => set_same (by have := h.siz; omega), p12 := rp hi h.p12, p13 := rp hi h.p13, p14 := rp hi h.p14, p15 := rp hi h.p15, p16 := rp hi h.p16, p17 := rp hi h.p17, p18 := rp hi h.p18, p19 := rp hi h.p19, p20 := rp hi h.p20, p21 := rp hi h.p21, p22 := rp hi h.p22, p23 := rp hi h.p23, p24 := rp hi h.p24 }⟩
            · have hi : 12 < d.size := by omega
              have e2 := h.p2 (hpre _ rfl ⟨2, .data⟩ (by simp) rfl)
              have e11 := h.p11 (hpre _ rfl ⟨11, .data⟩ (by simp) rfl)
              refine wpOp_plain rfl rfl ?_
              go_simp
              exact ⟨_, rfl, { bel := h.bel, siz := (by simpa using h.siz), kp := rk h.kp, k3 := rs h.k3, k5 := rs h.k5, k6 := rs h.k6, p0 := rp hi h.p0, p1 := rp hi h.p1, p2 := rp hi h.p2, p3 := rp hi h.p3, p4 := rp hi h.p4, p5 := rp hi h.p5, p6 := rp hi h.p6, p7 := rp hi h.p7, p8 := rp hi h.p8, p9 := rp hi h.p9, p10 := rp hi h.p10, p11 := rp hi h.p11, p12 := fun _ => set_same (by have := h.siz; omega), p13 := rp hi h.p13, p14 := rp hi h.p14, p15 := rp hi h.p15, p16 := rp hi h.p16, p17 := rp hi h.p17, p18 := rp hi h.p18, p19 := rp hi h.p19, p20 := rp hi h.p20, p21 := rp hi h.p21, p22 := rp hi h.p22, p23 := rp hi h.p23, p24 := rp hi h.p24 }⟩
            · have hi : 13 < d.size := by omega
              have e12 := h.p12 (hpre _ rfl ⟨12, .data⟩ (by simp) rfl)
              refine wpOp_plain rfl rfl ?_
              go_simp
              exact ⟨_, rfl, { bel := h.bel, siz := (by simpa using h.siz), kp := rk h.kp, k3 := rs h.k3, k5 := rs h.k5, k6 := rs h.k6, p0 := rp hi h.p0, p1 := rp hi h.p1, p2 := rp hi h.p2, p3 := rp hi h.p3, p4 := rp hi h.p4, p5 := rp hi h.p5, p6 := rp hi h.p6, p7 := rp hi h.p7, p8 := rp hi h.p8, p9 := rp hi h.p9, p10 := rp hi h.p10, p11 := rp hi h.p11, p12 := rp hi h.p12, p13 := fun _ => set_same (by have := h.siz; omega), p14 := rp hi h.p14, p15 := rp hi h.p15, p16 := rp hi h.p16, p17 := rp hi h.p17, p18 := rp hi h.p18, p19 := rp hi h.p19, p20 := rp hi h.p20, p21 := rp hi h.p21, p22 := rp hi h.p22, p23 := rp hi h.p23, p24 := rp hi h.p24 }⟩
            · have hi : 14 < d.size := by omega
              refine wpOp_idle rfl (unwanted_of (d := 32) rfl rfl (h.p13 (hpre _ rfl ⟨13, .guard⟩ (by simp) rfl)) (by decide)) ?_
              exact ⟨_, rfl, { bel := h.bel, siz := (by simpa using h.siz), kp := rk h.kp, k3 := rs h.k3, k5 := rs h.k5, k6 := rs h.k6, p0 := rp hi h.p0, p1 := rp hi h.p1, p2 := rp hi h.p2, p3 := rp hi h.p3, p4 := rp hi h.p4, p5 := rp hi h.p5, p6 := rp hi h.p6, p7 := rp hi h.p7, p8 := rp hi h.p8, p9 := rp hi h.p9, p10 := rp hi h.p10, p11 := rp hi h.p11, p12 := rp hi h.p12, p13 := rp hi h.p13, p14 := fun _ => set_same (by have := h.siz; show _ < t.size; omega), p15 := rp hi h.p15, p16 := rp hi h.p16, p17 := rp hi h.p17, p18 := rp hi h.p18, p19 := rp hi h.p19, p20 := rp hi h.p20, p21 := rp hi h.p21, p22 := rp hi h.p22, p23 := rp hi h.p23, p24 := rp hi h.p24 }⟩
            · have hi : 15 < d.size := by omega
              refine wpOp_idle rfl (unwanted_of (d := 32) rfl rfl (h.p13 (hpre _ rfl ⟨13, .guard⟩ (by simp) rfl)) (by decide)) ?_
              exact ⟨_, rfl, { bel := h.bel, siz := (by simpa using h.siz), kp := rk h.kp, k3 := rs h.k3, k5 := rs h.k5, k6 := rs h.k6, p0 := rp hi h.p0, p1 := rp hi h.p1, p2 := rp hi h.p2, p3 := rp hi h.p3, p4 := rp hi h.p4, p5 := rp hi h.p5, p6 := rp hi h.p6, p7 := rp hi h.p7, p8 := rp hi h.p8, p9 := rp hi h.p9, p10 := rp hi h.p10, p11 := rp hi h.p11, p12 := rp hi h.p12, p13 := rp hi h.p13, p14 := rp hi h.p14, p15 := fun _ => set_same (by have := h.siz; show _ < t.size; omega), p16 := rp hi h.p16, p17 := rp hi h.p17, p18 := rp hi h.p18, p19 := rp hi h.p19, p20 := rp hi h.p20, p21 := rp hi h.p21, p22 := rp hi h.p22, p23 := rp hi h.p23, p24 := rp hi h.p24 }⟩
            · have hi : 16 < d.size := by omega
              refine wpOp_idle rfl (unwanted_of (d := 32) rfl rfl (h.p13 (hpre _ rfl ⟨13, .guard⟩ (by simp) rfl)) (by decide)) ?_
              exact ⟨_, rfl, { bel := h.bel, siz := (by simpa using h.siz), kp := rk h.kp, k3 := rs h.k3, k5 := rs h.k5, k6 := rs h.k6, p0 := rp hi h.p0, p1 := rp hi h.p1, p2 := rp hi h.p2, p3 := rp hi h.p3, p4 := rp hi h.p4, p5 := rp hi h.p5, p6 := rp hi h.p6, p7 := rp hi h.p7, p8 := rp hi h.p8, p9 := rp hi h.p9, p10 := rp hi h.p10, p11 := rp hi h.p11, p12 := rp hi h.p12, p13 := rp hi h.p13, p14 := rp hi h.p14, p15 := rp hi h.p15, p16 := fun _ => set_same (by have := h.siz; show _ < t.size; omega), p17 := rp hi h.p17, p18 := rp hi h.p18, p19 := rp hi h.p19, p20 := rp hi h.p20, p21 := rp hi h.p21, p22 := rp hi h.p22, p23 := rp hi h.p23, p24 := rp hi h.p24 }⟩
            · have hi : 17 < d.size := by omega
              refine wpOp_idle rfl (unwanted_of (d := 32) rfl rfl (h.p13 (hpre _ rfl ⟨13, .guard⟩ (by simp) rfl)) (by decide)) ?_
              exact ⟨_, rfl, { bel := h.bel, siz := (by simpa using h.siz), kp := rk h.kp, k3 := rs h.k3, k5 := rs h.k5, k6 := rs h.k6, p0 := rp hi h.p0, p1 := rp hi h.p1, p2 := rp hi h.p2, p3 := rp hi h.p3, p4 := rp hi h.p4, p5 := rp hi h.p5, p6 := rp hi h.p6, p7 := rp hi h.p7, p8 := rp hi h.p8, p9 := rp hi h.p9, p10 := rp hi h.p10, p11 := rp hi h.p11, p12 := rp hi h.p12, p13 := rp hi h.p13, p14 := rp hi h.p14, p15 := rp hi h.p15, p16 := rp hi h.p16, p17 := fun _ => set_same (by have := h.siz; show _ < t.size; omega), p18 := rp hi h.p18, p19 := rp hi h.p19, p20 := rp hi h.p20, p21 := rp hi h.p21, p22 := rp hi h.p22, p23 := rp hi h.p23, p24 := rp hi h.p24 }⟩
            · have hi : 18 < d.size := by omega
              refine wpOp_idle rfl (unwanted_of (d := 32) rfl rfl (h.p13 (hpre _ rfl ⟨13, .guard⟩ (by simp) rfl)) (by decide)) ?_
              exact ⟨_, rfl, { bel := h.bel, siz := (by simpa using h.siz), kp := rk h.kp, k3 := rs h.k3, k5 := rs h.k5, k6 := rs h.k6, p0 := rp hi h.p0, p1 := rp hi h.p1, p2 := rp hi h.p2, p3 := rp hi h.p3, p4 := rp hi h.p4, p5 := rp hi h.p5, p6 := rp hi h.p6, p7 := rp hi h.p7, p8 := rp hi h.p8, p9 := rp hi h.p9, p10 := rp hi h.p10, p11 := rp hi h.p11, p12 := rp hi h.p12, p13 := rp hi h.p13, p14 := rp hi h.p14, p15 := rp hi h.p15, p16 := rp hi h.p16, p17 := rp hi h.p17, p18 := fun _ => set_same (by have := h.siz; show _ < t.size; omega), p19 := rp hi h.p19, p20 := rp hi h.p20, p21 := rp hi h.p21, p22 := rp hi h.p22, p23 := rp hi h.p23, p24 := rp hi h.p24 }⟩
            · have hi : 19 < d.size := by omega
              refine wpOp_idle rfl (unwanted_of (d := 32) rfl rfl (h.p13 (hpre _ rfl ⟨13, .guard⟩ (by simp) rfl)) (by decide)) ?_
              exact ⟨_, rfl, { bel := h.bel, siz := (by simpa using h.siz), kp := rk h.kp, k3 := rs h.k3, k5 := rs h.k5, k6 := rs h.k6, p0 := rp hi h.p0, p1 := rp hi h.p1, p2 := rp hi h.p2, p3 := rp hi h.p3, p4 := rp hi h.p4, p5 := rp hi h.p5, p6 := rp hi h.p6, p7 := rp hi h.p7, p8 := rp hi h.p8, p9 := rp hi h.p9, p10 := rp hi h.p10, p11 := rp hi h.p11, p12 := rp hi h.p12, p13 := rp hi h.p13, p14 := rp hi h.p14, p15 := rp hi h.p15, p16 := rp hi h.p16, p17 := rp hi h.p17, p18 := rp hi h.p18, p19 := fun _ => set_same (by have := h.siz; show _ < t.size; omega), p20 := rp hi h.p20, p21 := rp hi h.p21, p22 := rp hi h.p22, p23 := rp hi h.p23, p24 := rp hi h.p24 }⟩
            · have hi : 20 < d.size := by omega
              refine wpOp_idle rfl (unwanted_of (d := 32) rfl rfl (h.p13 (hpre _ rfl ⟨13, .guard⟩ (by simp) rfl)) (by decide)) ?_
              exact ⟨_, rfl, { bel := h.bel, siz := (by simpa using h.siz), kp := rk h.kp, k3 := rs h.k3, k5 := rs h.k5, k6 := rs h.k6, p0 := rp hi h.p0, p1 := rp hi h.p1, p2 := rp hi h.p2, p3 := rp hi h.p3, p4 := rp hi h.p4, p5 := rp hi h.p5, p6 := rp hi h.p6, p7 := rp hi h.p7, p8 := rp hi h.p8, p9 := rp hi h.p9, p10 := rp hi h.p10, p11 := rp hi h.p11, p12 := rp hi h.p12, p13 := rp hi h.p13, p14 := rp hi h.p14, p15 := rp hi h.p15, p16 := rp hi h.p16, p17 := rp hi h.p17, p18 := rp hi h.p18, p19 := rp hi h.p19, p20 := fun _ => set_same (by have := h.siz; show _ < t.size; omega), p21 := rp hi h.p21, p22 := rp hi h.p22, p23 := rp hi h.p23, p24 := rp hi h.p24 }⟩
            · have hi : 21 < d.size := by omega
              refine wpOp_idle rfl (unwanted_of (d := 32) rfl rfl (h.p13 (hpre _ rfl ⟨13, .guard⟩ (by simp) rfl)) (by decide)) ?_
              exact ⟨_, rfl, { bel := h.bel, siz := (by simpa using h.siz), kp := rk h.kp, k3 := rs h.k3, k5 := rs h.k5, k6 := rs h.k6, p0 := rp hi h.p0, p1 := rp hi h.p1, p2 := rp hi h.p2, p3 := rp hi h.p3, p4 := rp hi h.p4, p5 := rp hi h.p5, p6 := rp hi h.p6, p7 := rp hi h.p7, p8 := rp hi h.p8, p9 := rp hi h.p9, p10 := rp hi h.p10, p11 := rp hi h.p11, p12 := rp hi h.p12, p13 := rp hi h.p13, p14 := rp hi h.p14, p15 := rp hi h.p15, p16 := rp hi h.p16, p17 := rp hi h.p17, p18 := rp hi h.p18, p19 := rp hi h.p19, p20 := rp hi h.p20, p21 := fun _ => set_same (by have := h.siz; show _ < t.size; omega), p22 := rp hi h.p22, p23 := rp hi h.p23, p24 := rp hi h.p24 }⟩
            · have hi : 22 < d.size := by omega
              refine wpOp_idle rfl (unwanted_of (d := 32) rfl rfl (h.p13 (hpre _ rfl ⟨13, .guard⟩ (by simp) rfl)) (by decide)) ?_
              exact ⟨_, rfl, { bel := h.bel, siz := (by simpa using h.siz), kp := rk h.kp, k3 := rs h.k3, k5 := rs h.k5, k6 := rs h.k6, p0 := rp hi h.p0, p1 := rp hi h.p1, p2 := rp hi h.p2, p3 := rp hi h.p3, p4 := rp hi h.p4, p5 := rp hi h.p5, p6 := rp hi h.p6, p7 := rp hi h.p7, p8 := rp hi h.p8, p9 := rp hi h.p9, p10 := rp hi h.p10, p11 := rp hi h.p11, p12 := rp hi h.p12, p13 := rp hi h.p13, p14 := rp hi h.p14, p15 := rp hi h.p15, p16 := rp hi h.p16, p17 := rp hi h.p17, p18 := rp hi h.p18, p19 := rp hi h.p19, p20 := rp hi h.p20, p21 := rp hi h.p21, p22 := fun _ => set_same (by have := h.siz; show _ < t.size; omega), p23 := rp hi h.p23, p24 := rp hi h.p24 }⟩
            · have hi : 23 < d.size := by omega
              refine wpOp_idle rfl (unwanted_of (d := 32) rfl rfl (h.p13 (hpre _ rfl ⟨13, .guard⟩ (by simp) rfl)) (by decide)) ?_
              exact ⟨_, rfl, { bel := h.bel, siz := (by simpa using h.siz), kp := rk h.kp, k3 := rs h.k3, k5 := rs h.k5, k6 := rs h.k6, p0 := rp hi h.p0, p1 := rp hi h.p1, p2 := rp hi h.p2, p3 := rp hi h.p3, p4 := rp hi h.p4, p5 := rp hi h.p5, p6 := rp hi h.p6, p7 := rp hi h.p7, p8 := rp hi h.p8, p9 := rp hi h.p9, p10 := rp hi h.p10, p11 := rp hi h.p11, p12 := rp hi h.p12, p13 := rp hi h.p13, p14 := rp hi h.p14, p15 := rp hi h.p15, p16 := rp hi h.p16, p17 := rp hi h.p17, p18 := rp hi h.p18, p19 := rp hi h.p19, p20 := rp hi h.p20, p21 := rp hi h.p21, p22 := rp hi h.p22, p23 := fun _ => set_same (by have := h.siz; show _ < t.size; omega), p24 := rp hi h.p24 }⟩
            · have hi : 24 < d.size := by omega
              have e13 := h.p13 (hpre _ rfl ⟨13, .data⟩ (by simp) rfl)
              have e23 := h.p23 (hpre _ rfl ⟨23, .data⟩ (by simp) rfl)
              refine wpOp_plain rfl rfl ?_
              go_simp
              exact ⟨_, rfl, { bel := h.bel, siz := (by simpa using h.siz), kp := rk h.kp, k3 := rs h.k3, k5 := rs h.k5, k6 := rs h.k6, p0 := rp hi h.p0, p1 := rp hi h.p1, p2 := rp hi h.p2, p3 := rp hi h.p3, p4 := rp hi h.p4, p5 := rp hi h.p5, p6 := rp hi h.p6, p7 := rp hi h.p7, p8 := rp hi h.p8, p9 := rp hi h.p9, p10 := rp hi h.p10, p11 := rp hi h.p11, p12 := rp hi h.p12, p13 := rp hi h.p13, p14 := rp hi h.p14, p15 := rp hi h.p15, p16 := rp hi h.p16, p17 := rp hi h.p17, p18 := rp hi h.p18, p19 := rp hi h.p19, p20 := rp hi h.p20, p21 := rp hi h.p21, p22 := rp hi h.p22, p23 := rp hi h.p23, p24 := fun _ => set_same (by have := h.siz; omega) }⟩
          case gendb =>
            intro d a wc hd hI hall
            obtain ⟨t, rfl, h⟩ := hI
            have hdn : ∀ j, j < 25 → dn d j := fun j hj => dn_all hd hall hj
            have hd : ∀ j, (_ : j < 25 := by decide) → dn d j := fun j hj => hdn j hj
            have hfe := frame_eq [(19, _), (20, _), (21, _), (22, _), (23, _), (24, _), (25, _), (26, _), (27, _), (28, _), (29, _), (30, _), (31, _), (32, _), (33, _), (34, _), (35, _), (36, _), (37, _), (38, _), (39, _), (40, _), (41, _), (42, _), (43, _)] (h.siz.trans rfl) h.kp rfl ⟨h.p0 (hd 0), h.p1 (hd 1), h.p2 (hd 2), h.p3 (hd 3), h.p4 (hd 4), h.p5 (hd 5), h.p6 (hd 6), h.p7 (hd 7), h.p8 (hd 8), h.p9 (hd 9), h.p10 (hd 10), h.p11 (hd 11), h.p12 (hd 12), h.p13 (hd 13), h.p14 (hd 14), h.p15 (hd 15), h.p16 (hd 16), h.p17 (hd 17), h.p18 (hd 18), h.p19 (hd 19), h.p20 (hd 20), h.p21 (hd 21), h.p22 (hd 22), h.p23 (hd 23), h.p24 (hd 24), trivial⟩
            simp only [List.foldl_cons, List.foldl_nil, List.setIfInBounds_toArray, List.set_cons_succ, List.set_cons_zero] at hfe
            have hbc := h.bel
            subst hfe
            clear h hdn hd hall
            have HBX := Lib.hid (HBS.out.trans (hbc.mono HBS.out.size))
            have HXR := Lib.hid (HRS.out.trans (hbc.mono HRS.out.size))
            have hbw := hbc
            clear hbc
            obtain ⟨n0, n1, n2, n3⟩ := CVS.out wc hbw
            have HOS : Hid ((wc.alloc (.cells #[.int .i64 ku, .string sv, .int .i64 lv, .int .i64 hv] 60)).ownsRow w2.heap.size 60 4 (.slice (some ⟨b, 0, none⟩) (m + 1) cv) (m + 1) ((r ++ [(⟨ku, su, lu, hu⟩ : Sg.Value)]).flatMap encValue)) := Lib.hid (keep_own HOK.out (HXR.out.alloc HXR.out.size _))
            have HRD := Lib.hid (rd_one_value wc ⟨ku, sv, lv, hv⟩)
            have hk1 : (m + 1) + 1 ≤ maxLen := by simp only [maxLen]; omega
            have hk2 : ((m + 1) + 1) * 40 ≤ 140737488355328 := by omega
            have hbase : w2.heap.size ≤ (wc.alloc (.cells #[.int .i64 ku, .string sv, .int .i64 lv, .int .i64 hv] 60)).heap.size := by have := HBX.out.size; simp; omega
            go_wp2_with (at_builtin; go_must (refine wpList_append_rd (enc := encValue) rfl (.tmp 58) (.tmp 60) _ rfl w2.heap.size 60 i1 _ 4 40 len_value one_value Tryz.underlying47 hi1 hz1 hs1' hb1' rfl (by decide) (.slice (some ⟨b, 0, none⟩) (m + 1) cv) (m + 1) ((r ++ [(⟨ku, su, lu, hu⟩ : Sg.Value)]).flatMap encValue) rfl HOS.out _ (.slice (some ⟨wc.heap.size, 0, none⟩) 1 1) [⟨ku, sv, lv, hv⟩] rfl HRD.out hk1 hk2 hbase ?_))
            intro v8 w8 hown8 hg8 hat8
            have HB8 : Hid (Below w2.heap.size w2 w8) := Lib.hid ((HBX.out.alloc HBX.out.size _).grown hg8 hbase (fun q hq => (HOS.out.lt q hq).1))
            have HO8 := Lib.hid (own_valueM HMR.out hown8)
            clear hown8 hg8 hat8 n0 n1 n2 n3
            go_wp2_with fail
            go_roundg (S.length - (k + 1))
            case measure => omega
            case rel => exact ⟨k + 1, (r ++ [(⟨ku, su, lu, hu⟩ : Sg.Value)]) ++ [⟨ku, sv, lv, hv⟩], by omega, rfl, by go_num, HB8.out, HO8.out, HNX.out⟩
        subst hkd
        subst htx
        by_cases hle : lv ≤ hu + 1
        case neg =>
          have HNX : Hid (Sg.mergeV (S.take (k + 1)) = (r ++ [⟨ku, su, lu, hu⟩]) ++ [⟨ku, su, lv, hv⟩]) := Lib.hid (by rw [hnx]; exact Sg.mergeS_app fun h => hle h.2)
          clear hnx
          go_upto_region 8 with fail
          rw [← HWS.out]
          clear f0 f1 f2 f3
          refine wp_region_inv2T (fun T0 => TdcI T0 wS b m cv wr.heap.size ku su lu hu ku su lv hv false) (by kernel_rfl) (by kernel_rfl) ?g0c ?gstepc ?gendc
          case g0c =>
            have hno : ∀ j, ¬ dn (Array.replicate 25 false) j := by
              intro j; unfold dn; by_cases hj : j < 25 <;> simp [Array.getD, hj]
            have na : ∀ {j : Nat} {Z : Prop}, dn (Array.replicate 25 false) j → Z := fun hj => absurd hj (hno _)
            exact ⟨_, rfl, { bel := (Below.refl _ _).drew, siz := rfl, kp := fun _ _ => rfl, k3 := rfl, k5 := rfl, k6 := rfl, p0 := na, p1 := na, p2 := na, p3 := na, p4 := na, p5 := na, p6 := na, p7 := na, p8 := na, p9 := na, p10 := na, p11 := na, p12 := na, p13 := na, p14 := na, p15 := na, p16 := na, p17 := na, p18 := na, p19 := na, p20 := na, p21 := na, p22 := na, p23 := na, p24 := na }⟩
          case gstepc =>
            intro T0 d a wc i hd hI hi
            obtain ⟨hlt, hnd, hpre⟩ := mem_ready hi
            have hd' : d.size = 25 := hd
            have hin : i < 25 := hlt
            clear hi hd hlt
            obtain ⟨t, rfl, h⟩ := hI
            have hcs : i = 0 ∨ i = 1 ∨ i = 2 ∨ i = 3 ∨ i = 4 ∨ i = 5 ∨ i = 6 ∨ i = 7 ∨ i = 8 ∨ i = 9 ∨ i = 10 ∨ i = 11 ∨ i = 12 ∨ i = 13 ∨ i = 14 ∨ i = 15 ∨ i = 16 ∨ i = 17 ∨ i = 18 ∨ i = 19 ∨ i = 20 ∨ i = 21 ∨ i = 22 ∨ i = 23 ∨ i = 24 := by omega
            rcases hcs with rfl | rfl | rfl | rfl | rfl | rfl | rfl | rfl | rfl | rfl | rfl | rfl | rfl | rfl | rfl | rfl | rfl | rfl | rfl | rfl | rfl | rfl | rfl | rfl | rfl
            · have hi : 0 < d.size := by omega
              have q6 := h.k6
              refine wpOp_plain rfl rfl ?_
              go_simp
              exact ⟨_, rfl, { bel := h.bel, siz := (by simpa using h.siz), kp := rk h.kp, k3 := rs h.k3, k5 := rs h.k5, k6 := rs h.k6, p0 := fun _ => set_same (by have := h.siz; omega), p1 := rp hi h.p1, p2 := rp hi h.p2, p3 := rp hi h.p3, p4 := rp hi h.p4, p5 := rp hi h.p5, p6 := rp hi h.p6, p7 := rp hi h.p7, p8 := rp hi h.p8, p9 := rp hi h.p9, p10 := rp hi h.p10, p11 := rp hi h.p11, p12 := rp hi h.p12, p13 := rp hi h.p13, p14 := rp hi h.p14, p15 := rp hi h.p15, p16 := rp hi h.p16, p17 := rp hi h.p17, p18 := rp hi h.p18, p19 := rp hi h.p19, p20 := rp hi h.p20, p21 := rp hi h.p21, p22 := rp hi h.p22, p23 := rp hi h.p23, p24 := rp hi h.p24 }⟩
            · have hi : 1 < d.size := by omega
              have e0 := h.p0 (hpre _ rfl ⟨0, .data⟩ (by simp) rfl)
              refine wpOp_plain rfl rfl ?_
              go_simp
              exact ⟨_, rfl, { bel := h.bel, siz := (by simpa using h.siz), kp := rk h.kp, k3 := rs h.k3, k5 := rs h.k5, k6 := rs h.k6, p0 := rp hi h.p0, p1 := fun _ => set_same (by have := h.siz; omega), p2 := rp hi h.p2, p3 := rp hi h.p3, p4 := rp hi h.p4, p5 := rp hi h.p5, p6 := rp hi h.p6, p7 := rp hi h.p7, p8 := rp hi h.p8, p9 := rp hi h.p9, p10 := rp hi h.p10, p11 := rp hi h.p11, p12 := rp hi h.p12, p13 := rp hi h.p13, p14 := rp hi h.p14, p15 := rp hi h.p15, p16 := rp hi h.p16, p17 := rp hi h.p17, p18 := rp hi h.p18, p19 := rp hi h.p19, p20 := rp hi h.p20, p21 := rp hi h.p21, p22 := rp hi h.p22, p23 := rp hi h.p23, p24 := rp hi h.p24 }⟩
            · have hi : 2 < d.size := by omega
              have e1 := h.p1 (hpre _ rfl ⟨1, .data⟩ (by simp) rfl)
              refine wpOp_plain rfl rfl ?_
              go_simp
              exact ⟨_, rfl, { bel := h.bel, siz := (by simpa using h.siz), kp := rk h.kp, k3 := rs h.k3, k5 := rs h.k5, k6 := rs h.k6, p0 := rp hi h.p0, p1 := rp hi h.p1, p2 := fun _ => set_same (by have := h.siz; omega), p3 := rp hi h.p3, p4 := rp hi h.p4, p5 := rp hi h.p5, p6 := rp hi h.p6, p7 := rp hi h.p7, p8 := rp hi h.p8, p9 := rp hi h.p9, p10 := rp hi h.p10, p11 := rp hi h.p11, p12 := rp hi h.p12, p13 := rp hi h.p13, p14 := rp hi h.p14, p15 := rp hi h.p15, p16 := rp hi h.p16, p17 := rp hi h.p17, p18 := rp hi h.p18, p19 := rp hi h.p19, p20 := rp hi h.p20, p21 := rp hi h.p21, p22 := rp hi h.p22, p23 := rp hi h.p23, p24 := rp hi h.p24 }⟩
            · have hi : 3 < d.size := by omega
              have q3 := h.k3
              refine wpOp_guard rfl (wanted_of (d := 21) rfl rfl (h.p2 (hpre _ rfl ⟨2, .guard⟩ (by simp) rfl))) ?_
              go_simp
              exact ⟨_, rfl, { bel := h.bel, siz := (by simpa using h.siz), kp := rk h.kp, k3 := rs h.k3, k5 := rs h.k5, k6 := rs h.k6, p0 := rp hi h.p0, p1 := rp hi h.p1, p2 := rp hi h.p2, p3 := fun _ => set_same (by have := h.siz; omega), p4 := rp hi h.p4, p5 := rp hi h.p5, p6 := rp hi h.p6, p7 := rp hi h.p7, p8 := rp hi h.p8, p9 := rp hi h.p9, p10 := rp hi h.p10, p11 := rp hi h.p11, p12 := rp hi h.p12, p13 := rp hi h.p13, p14 := rp hi h.p14, p15 := rp hi h.p15, p16 := rp hi h.p16, p17 := rp hi h.p17, p18 := rp hi h.p18, p19 := rp hi h.p19, p20 := rp hi h.p20, p21 := rp hi h.p21, p22 := rp hi h.p22, p23 := rp hi h.p23, p24 := rp hi h.p24 }⟩
            · have hi : 4 < d.size := by omega
              have q6 := h.k6
              refine wpOp_guard rfl (wanted_of (d := 21) rfl rfl (h.p2 (hpre _ rfl ⟨2, .guard⟩ (by simp) rfl))) ?_
              go_simp
              exact ⟨_, rfl, { bel := h.bel, siz := (by simpa using h.siz), kp := rk h.kp, k3 := rs h.k3, k5 := rs h.k5, k6 := rs h.k6, p0 := rp hi h.p0, p1 := rp hi h.p1, p2 := rp hi h.p2, p3 := rp hi h.p3, p4 := fun _ => set_same (by have := h.siz; omega), p5 := rp hi h.p5, p6 := rp hi h.p6, p7 := rp hi h.p7, p8 := rp hi h.p8, p9 := rp hi h.p9, p10 := rp hi h.p10, p11 := rp hi h.p11, p12 := rp hi h.p12, p13 := rp hi h.p13, p14 := rp hi h.p14, p15 := rp hi h.p15, p16 := rp hi h.p16, p17 := rp hi h.p17, p18 := rp hi h.p18, p19 := rp hi h.p19, p20 := rp hi h.p20, p21 := rp hi h.p21, p22 := rp hi h.p22, p23 := rp hi h.p23, p24 := rp hi h.p24 }⟩
            · have hi : 5 < d.size := by omega
              have e4 := h.p4 (hpre _ rfl ⟨4, .data⟩ (by simp) rfl)
              refine wpOp_guard rfl (wanted_of (d := 21) rfl rfl (h.p2 (hpre _ rfl ⟨2, .guard⟩ (by simp) rfl))) ?_
              go_simp
              try simp (disch := omega) only [IntWalk.i64_in]
              exact ⟨_, rfl, { bel := h.bel, siz := (by simpa using h.siz), kp := rk h.kp, k3 := rs h.k3, k5 := rs h.k5, k6 := rs h.k6, p0 := rp hi h.p0, p1 := rp hi h.p1, p2 := rp hi h.p2, p3 := rp hi h.p3, p4 := rp hi h.p4, p5 := fun _ => set_same (by have := h.siz; omega), p6 := rp hi h.p6, p7 := rp hi h.p7, p8 := rp hi h.p8, p9 := rp hi h.p9, p10 := rp hi h.p10, p11 := rp hi h.p11, p12 := rp hi h.p12, p13 := rp hi h.p13, p14 := rp hi h.p14, p15 := rp hi h.p15, p16 := rp hi h.p16, p17 := rp hi h.p17, p18 := rp hi h.p18, p19 := rp hi h.p19, p20 := rp hi h.p20, p21 := rp hi h.p21, p22 := rp hi h.p22, p23 := rp hi h.p23, p24 := rp hi h.p24 }⟩
            · have hi : 6 < d.size := by omega
              have e3 := h.p3 (hpre _ rfl ⟨3, .data⟩ (by simp) rfl)
              have e5 := h.p5 (hpre _ rfl ⟨5, .data⟩ (by simp) rfl)
              refine wpOp_guard rfl (wanted_of (d := 21) rfl rfl (h.p2 (hpre _ rfl ⟨2, .guard⟩ (by simp) rfl))) ?_
              go_simp
              exact ⟨_, rfl, { bel := h.bel, siz := (by simpa using h.siz), kp := rk h.kp, k3 := rs h.k3, k5 := rs h.k5, k6 := rs h.k6, p0 := rp hi h.p0, p1 := rp hi h.p1, p2 := rp hi h.p2, p3 := rp hi h.p3, p4 := rp hi h.p4, p5 := rp hi h.p5, p6 := fun _ => set_same (by have := h.siz; omega), p7 := rp hi h.p7, p8 := rp hi h.p8, p9 := rp hi h.p9, p10 := rp hi h.p10, p11 := rp hi h.p11, p12 := rp hi h.p12, p13 := rp hi h.p13, p14 := rp hi h.p14, p15 := rp hi h.p15, p16 := rp hi h.p16, p17 := rp hi h.p17, p18 := rp hi h.p18, p19 := rp hi h.p19, p20 := rp hi h.p20, p21 := rp hi h.p21, p22 := rp hi h.p22, p23 := rp hi h.p23, p24 := rp hi h.p24 }⟩
            · have hi : 7 < d.size := by omega
              have e6 := h.p6 (hpre _ rfl ⟨6, .data⟩ (by simp) rfl)
              obtain ⟨m0, m1, m2, m3, n0, n1, n2, n3⟩ := CQ.out wc h.bel
              refine wpOp_guard rfl (wanted_of (d := 21) rfl rfl (h.p2 (hpre _ rfl ⟨2, .guard⟩ (by simp) rfl))) ?_
              go_simp
              exact ⟨_, rfl, { bel := h.bel, siz := (by simpa using h.siz), kp := rk h.kp, k3 := rs h.k3, k5 := rs h.k5, k6 := rs h.k6, p0 := rp hi h.p0, p1 := rp hi h.p1, p2 := rp hi h.p2, p3 := rp hi h.p3, p4 := rp hi h.p4, p5 := rp hi h.p5, p6 := rp hi h.p6, p7 := fun _ => set_same (by have := h.siz; omega), p8 := rp hi h.p8, p9 := rp hi h.p9, p10 := rp hi h.p10, p11 := rp hi h.p11, p12 := rp hi h.p12, p13 := rp hi h.p13, p14 := rp hi h.p14, p15 := rp hi h.p15, p16 := rp hi h.p16, p17 := rp hi h.p17, p18 := rp hi h.p18, p19 := rp hi h.p19, p20 := rp hi h.p20, p21 := rp hi h.p21, p22 := rp hi h.p22, p23 := rp hi h.p23, p24 := rp hi h.p24 }⟩
            · have hi : 8 < d.size := by omega
              have e7 := h.p7 (hpre _ rfl ⟨7, .data⟩ (by simp) rfl)
              refine wpOp_guard rfl (wanted_of (d := 21) rfl rfl (h.p2 (hpre _ rfl ⟨2, .guard⟩ (by simp) rfl))) ?_
              go_simp
              refine (gOf_any ⟨ku, su, lu, hu⟩ wc).mono ?_
              rintro e1 w1 ⟨rfl, hb⟩
              exact ⟨_, rfl, { bel := h.bel.trans (hb.mono h.bel.size), siz := (by simpa using h.siz), kp := rk h.kp, k3 := rs h.k3, k5 := rs h.k5, k6 := rs h.k6, p0 := rp hi h.p0, p1 := rp hi h.p1, p2 := rp hi h.p2, p3 := rp hi h.p3, p4 := rp hi h.p4, p5 := rp hi h.p5, p6 := rp hi h.p6, p7 := rp hi h.p7, p8 := fun _ => set_same (by have := h.siz; omega), p9 := rp hi h.p9, p10 := rp hi h.p10, p11 := rp hi h.p11, p12 := rp hi h.p12, p13 := rp hi h.p13, p14 := rp hi h.p14, p15 := rp hi h.p15, p16 := rp hi h.p16, p17 := rp hi h.p17, p18 := rp hi h.p18, p19 := rp hi h.p19, p20 := rp hi h.p20, p21 := rp hi h.p21, p22 := rp hi h.p22, p23 := rp hi h.p23, p24 := rp hi h.p24 }⟩
            · have hi : 9 < d.size := by omega
              have q5 := h.k5
              obtain ⟨m0, m1, m2, m3, n0, n1, n2, n3⟩ := CQ.out wc h.bel
              refine wpOp_guard rfl (wanted_of (d := 21) rfl rfl (h.p2 (hpre _ rfl ⟨2, .guard⟩ (by simp) rfl))) ?_
              go_simp
              exact ⟨_, rfl, { bel := h.bel, siz := (by simpa using h.siz), kp := rk h.kp, k3 := rs h.k3, k5 := rs h.k5, k6 := rs h.k6, p0 := rp hi h.p0, p1 := rp hi h.p1, p2 := rp hi h.p2, p3 := rp hi h.p3, p4 := rp hi h.p4, p5 := rp hi h.p5, p6 := rp hi h.p6, p7 := rp hi h.p7, p8 := rp hi h.p8, p9 := fun _ => set_same (by have := h.siz; omega), p10 := rp hi h.p10, p11 := rp hi h.p11, p12 := rp hi h.p12, p13 := rp hi h.p13, p14 := rp hi h.p14, p15 := rp hi h.p15, p16 := rp hi h.p16, p17 := rp hi h.p17, p18 := rp hi h.p18, p19 := rp hi h.p19, p20 := rp hi h.p20, p21 := rp hi h.p21, p22 := rp hi h.p22, p23 := rp hi h.p23, p24 := rp hi h.p24 }⟩
            · have hi : 10 < d.size := by omega
              have e9 := h.p9 (hpre _ rfl ⟨9, .data⟩ (by simp) rfl)
              refine wpOp_guard rfl (wanted_of (d := 21) rfl rfl (h.p2 (hpre _ rfl ⟨2, .guard⟩ (by simp) rfl))) ?_
              go_simp
              refine (gOf_any ⟨ku, su, lv, hv⟩ wc).mono ?_
              rintro e1 w1 ⟨rfl, hb⟩
              exact ⟨_, rfl, { bel := h.bel.trans (hb.mono h.bel.size), siz := (by simpa using h.siz), kp := rk h.kp, k3 := rs h.k3, k5 := rs h.k5, k6 := rs h.k6, p0 := rp hi h.p0, p1 := rp hi h.p1, p2 := rp hi h.p2, p3 := rp hi h.p3, p4 := rp hi h.p4, p5 := rp hi h.p5, p6 := rp hi h.p6, p7 := rp hi h.p7, p8 := rp hi h.p8, p9 := rp hi h.p9, p10 := fun _ => set_same (by have := h.siz; omega), p11 := rp hi h.p11, p12 := rp hi h.p12, p13 := rp hi h.p13, p14 := rp hi h.p14, p15 := rp hi h.p15, p16 := rp hi h.p16, p17 := rp hi h.p17, p18 := rp hi h.p18, p19 := rp hi h.p19, p20 := rp hi h.p20, p21 := rp hi h.p21, p22 := rp hi h.p22, p23 := rp hi h.p23, p24 := rp hi h.p24 }⟩
            · have hi : 11 < d.size := by omega
              have e8 := h.p8 (hpre _ rfl ⟨8, .data⟩ (by simp) rfl)
              have e10 := h.p10 (hpre _ rfl ⟨10, .data⟩ (by simp) rfl)
              refine wpOp_guard rfl (wanted_of (d := 21) rfl rfl (h.p2 (hpre _ rfl ⟨2, .guard⟩ (by simp) rfl))) ?_
              go_simp
              exact ⟨_, rfl, { bel := h.bel, siz := (by simpa using h.siz), kp := rk h.kp, k3 := rs h.k3, k5 := rs h.k5, k6 := rs h.k6, p0 := rp hi h.p0, p1 := rp hi h.p1, p2 := rp hi h.p2, p3 := rp hi h.p3, p4 := rp hi h.p4, p5 := rp hi h.p5, p6 := rp hi h.p6, p7 := rp hi h.p7, p8 := rp hi h.p8, p9 := rp hi h.p9, p10 := rp hi h.p10, p11 := fun _ => set_same (by have := h.siz; omega), p12 := rp hi h.p12, p13 := rp hi h.p13, p14 := rp hi h.p14, p15 := rp hi h.p15, p16 := rp hi h.p16, p17 := rp hi h.p17, p18 := rp hi h.p18, p19 := rp hi h.p19, p20 := rp hi h.p20, p21 := rp hi h.p21, p22 := rp hi h.p22, p23 := rp hi h.p23, p24 := rp hi h.p24 }⟩
            · have hi : 12 < d.size := by omega
              have e2 := h.p2 (hpre _ rfl ⟨2, .data⟩ (by simp) rfl)
              have e11 := h.p11 (hpre _ rfl ⟨11, .data⟩ (by simp) rfl)
              refine wpOp_plain rfl rfl ?_
              go_simp
              exact ⟨_, rfl, { bel := h.bel, siz := (by simpa using h.siz), kp := rk h.kp, k3 := rs h.k3, k5 := rs h.k5, k6 := rs h.k6, p0 := rp hi h.p0, p1 := rp hi h.p1, p2 := rp hi h.p2, p3 := rp hi h.p3, p4 := rp hi h.p4, p5 := rp hi h.p5, p6 := rp hi h.p6, p7 := rp hi h.p7, p8 := rp hi h.p8, p9 := rp hi h.p9, p10 := rp hi h.p10, p11 := rp hi h.p11, p12 := fun _ => set_same (by have := h.siz; omega), p13 := rp hi h.p13, p14 := rp hi h.p14, p15 := rp hi h.p15, p16 := rp hi h.p16, p17 := rp hi h.p17, p18 := rp hi h.p18, p19 := rp hi h.p19, p20 := rp hi h.p20, p21 := rp hi h.p21, p22 := rp hi h.p22, p23 := rp hi h.p23, p24 := rp hi h.p24 }⟩
            · have hi : 13 < d.size := by omega
              have e12 := h.p12 (hpre _ rfl ⟨12, .data⟩ (by simp) rfl)
              refine wpOp_plain rfl rfl ?_
              go_simp
              exact ⟨_, rfl, { bel := h.bel, siz := (by simpa using h.siz), kp := rk h.kp, k3 := rs h.k3, k5 := rs h.k5, k6 := rs h.k6, p0 := rp hi h.p0, p1 := rp hi h.p1, p2 := rp hi h.p2, p3 := rp hi h.p3, p4 := rp hi h.p4, p5 := rp hi h.p5, p6 := rp hi h.p6, p7 := rp hi h.p7, p8 := rp hi h.p8, p9 := rp hi h.p9, p10 := rp hi h.p10, p11 := rp hi h.p11, p12 := rp hi h.p12, p13 := fun _ => set_same (by have := h.siz; omega), p14 := rp hi h.p14, p15 := rp hi h.p15, p16 := rp hi h.p16, p17 := rp hi h.p17, p18 := rp hi h.p18, p19 := rp hi h.p19, p20 := rp hi h.p20, p21 := rp hi h.p21, p22 := rp hi h.p22, p23 := rp hi h.p23, p24 := rp hi h.p24 }⟩
            · have hi : 14 < d.size := by omega
              have q5 := h.k5
              refine wpOp_guard rfl (wanted_of (d := 32) rfl rfl (h.p13 (hpre _ rfl ⟨13, .guard⟩ (by simp) rfl))) ?_
              go_simp
              exact ⟨_, rfl, { bel := h.bel, siz := (by simpa using h.siz), kp := rk h.kp, k3 := rs h.k3, k5 := rs h.k5, k6 := rs h.k6, p0 := rp hi h.p0, p1 := rp hi h.p1, p2 := rp hi h.p2, p3 := rp hi h.p3, p4 := rp hi h.p4, p5 := rp hi h.p5, p6 := rp hi h.p6, p7 := rp hi h.p7, p8 := rp hi h.p8, p9 := rp hi h.p9, p10 := rp hi h.p10, p11 := rp hi h.p11, p12 := rp hi h.p12, p13 := rp hi h.p13, p14 := fun _ => set_same (by have := h.siz; omega), p15 := rp hi h.p15, p16 := rp hi h.p16, p17 := rp hi h.p17, p18 := rp hi h.p18, p19 := rp hi h.p19, p20 := rp hi h.p20, p21 := rp hi h.p21, p22 := rp hi h.p22, p23 := rp hi h.p23, p24 := rp hi h.p24 }⟩
            · have hi : 15 < d.size := by omega
              have e14 := h.p14 (hpre _ rfl ⟨14, .data⟩ (by simp) rfl)
              obtain ⟨m0, m1, m2, m3, n0, n1, n2, n3⟩ := CQ.out wc h.bel
              refine wpOp_guard rfl (wanted_of (d := 32) rfl rfl (h.p13 (hpre _ rfl ⟨13, .guard⟩ (by simp) rfl))) ?_
              go_simp
              exact ⟨_, rfl, { bel := h.bel, siz := (by simpa using h.siz), kp := rk h.kp, k3 := rs h.k3, k5 := rs h.k5, k6 := rs h.k6, p0 := rp hi h.p0, p1 := rp hi h.p1, p2 := rp hi h.p2, p3 := rp hi h.p3, p4 := rp hi h.p4, p5 := rp hi h.p5, p6 := rp hi h.p6, p7 := rp hi h.p7, p8 := rp hi h.p8, p9 := rp hi h.p9, p10 := rp hi h.p10, p11 := rp hi h.p11, p12 := rp hi h.p12, p13 := rp hi h.p13, p14 := rp hi h.p14, p15 := fun _ => set_same (by have := h.siz; omega), p16 := rp hi h.p16, p17 := rp hi h.p17, p18 := rp hi h.p18, p19 := rp hi h.p19, p20 := rp hi h.p20, p21 := rp hi h.p21, p22 := rp hi h.p22, p23 := rp hi h.p23, p24 := rp hi h.p24 }⟩
            · have hi : 16 < d.size := by omega
              have q3 := h.k3
              refine wpOp_guard rfl (wanted_of (d := 32) rfl rfl (h.p13 (hpre _ rfl ⟨13, .guard⟩ (by simp) rfl))) ?_
              go_simp
              exact ⟨_, rfl, { bel := h.bel, siz := (by simpa using h.siz), kp := rk h.kp, k3 := rs h.k3, k5 := rs h.k5, k6 := rs h.k6, p0 := rp hi h.p0, p1 := rp hi h.p1, p2 := rp hi h.p2, p3 := rp hi h.p3, p4 := rp hi h.p4, p5 := rp hi h.p5, p6 := rp hi h.p6, p7 := rp hi h.p7, p8 := rp hi h.p8, p9 := rp hi h.p9, p10 := rp hi h.p10, p11 := rp hi h.p11, p12 := rp hi h.p12, p13 := rp hi h.p13, p14 := rp hi h.p14, p15 := rp hi h.p15, p16 := fun _ => set_same (by have := h.siz; omega), p17 := rp hi h.p17, p18 := rp hi h.p18, p19 := rp hi h.p19, p20 := rp hi h.p20, p21 := rp hi h.p21, p22 := rp hi h.p22, p23 := rp hi h.p23, p24 := rp hi h.p24 }⟩
            · have hi : 17 < d.size := by omega
              have q6 := h.k6
              refine wpOp_guard rfl (wanted_of (d := 32) rfl rfl (h.p13 (hpre _ rfl ⟨13, .guard⟩ (by simp) rfl))) ?_
              go_simp
              exact ⟨_, rfl, { bel := h.bel, siz := (by simpa using h.siz), kp := rk h.kp, k3 := rs h.k3, k5 := rs h.k5, k6 := rs h.k6, p0 := rp hi h.p0, p1 := rp hi h.p1, p2 := rp hi h.p2, p3 := rp hi h.p3, p4 := rp hi h.p4, p5 := rp hi h.p5, p6 := rp hi h.p6, p7 := rp hi h.p7, p8 := rp hi h.p8, p9 := rp hi h.p9, p10 := rp hi h.p10, p11 := rp hi h.p11, p12 := rp hi h.p12, p13 := rp hi h.p13, p14 := rp hi h.p14, p15 := rp hi h.p15, p16 := rp hi h.p16, p17 := fun _ => set_same (by have := h.siz; omega), p18 := rp hi h.p18, p19 := rp hi h.p19, p20 := rp hi h.p20, p21 := rp hi h.p21, p22 := rp hi h.p22, p23 := rp hi h.p23, p24 := rp hi h.p24 }⟩
            · have hi : 18 < d.size := by omega
              have e17 := h.p17 (hpre _ rfl ⟨17, .data⟩ (by simp) rfl)
              refine wpOp_guard rfl (wanted_of (d := 32) rfl rfl (h.p13 (hpre _ rfl ⟨13, .guard⟩ (by simp) rfl))) ?_
              go_simp
              try simp (disch := omega) only [IntWalk.i64_in]
              exact ⟨_, rfl, { bel := h.bel, siz := (by simpa using h.siz), kp := rk h.kp, k3 := rs h.k3, k5 := rs h.k5, k6 := rs h.k6, p0 := rp hi h.p0, p1 := rp hi h.p1, p2 := rp hi h.p2, p3 := rp hi h.p3, p4 := rp hi h.p4, p5 := rp hi h.p5, p6 := rp hi h.p6, p7 := rp hi h.p7, p8 := rp hi h.p8, p9 := rp hi h.p9, p10 := rp hi h.p10, p11 := rp hi h.p11, p12 := rp hi h.p12, p13 := rp hi h.p13, p14 := rp hi h.p14, p15 := rp hi h.p15, p16 := rp hi h.p16, p17 := rp hi h.p17, p18 := fun _ => set_same (by have := h.siz; omega), p19 := rp hi h.p19, p20 := rp hi h.p20, p21 := rp hi h.p21, p22 := rp hi h.p22, p23 := rp hi h.p23, p24 := rp hi h.p24 }⟩
            · have hi : 19 < d.size := by omega
              have e16 := h.p16 (hpre _ rfl ⟨16, .data⟩ (by simp) rfl)
              have e18 := h.p18 (hpre _ rfl ⟨18, .data⟩ (by simp) rfl)
              refine wpOp_guard rfl (wanted_of (d := 32) rfl rfl (h.p13 (hpre _ rfl ⟨13, .guard⟩ (by simp) rfl))) ?_
              go_simp
              exact ⟨_, rfl, { bel := h.bel, siz := (by simpa using h.siz), kp := rk h.kp, k3 := rs h.k3, k5 := rs h.k5, k6 := rs h.k6, p0 := rp hi h.p0, p1 := rp hi h.p1, p2 := rp hi h.p2, p3 := rp hi h.p3, p4 := rp hi h.p4, p5 := rp hi h.p5, p6 := rp hi h.p6, p7 := rp hi h.p7, p8 := rp hi h.p8, p9 := rp hi h.p9, p10 := rp hi h.p10, p11 := rp hi h.p11, p12 := rp hi h.p12, p13 := rp hi h.p13, p14 := rp hi h.p14, p15 := rp hi h.p15, p16 := rp hi h.p16, p17 := rp hi h.p17, p18 := rp hi h.p18, p19 := fun _ => set_same (by have := h.siz; omega), p20 := rp hi h.p20, p21 := rp hi h.p21, p22 := rp hi h.p22, p23 := rp hi h.p23, p24 := rp hi h.p24 }⟩
            · have hi : 20 < d.size := by omega
              have e19 := h.p19 (hpre _ rfl ⟨19, .data⟩ (by simp) rfl)
              refine wpOp_guard rfl (wanted_of (d := 32) rfl rfl (h.p13 (hpre _ rfl ⟨13, .guard⟩ (by simp) rfl))) ?_
              go_simp
              exact ⟨_, rfl, { bel := h.bel, siz := (by simpa using h.siz), kp := rk h.kp, k3 := rs h.k3, k5 := rs h.k5, k6 := rs h.k6, p0 := rp hi h.p0, p1 := rp hi h.p1, p2 := rp hi h.p2, p3 := rp hi h.p3, p4 := rp hi h.p4, p5 := rp hi h.p5, p6 := rp hi h.p6, p7 := rp hi h.p7, p8 := rp hi h.p8, p9 := rp hi h.p9, p10 := rp hi h.p10, p11 := rp hi h.p11, p12 := rp hi h.p12, p13 := rp hi h.p13, p14 := rp hi h.p14, p15 := rp hi h.p15, p16 := rp hi h.p16, p17 := rp hi h.p17, p18 := rp hi h.p18, p19 := rp hi h.p19, p20 := fun _ => set_same (by have := h.siz; omega), p21 := rp hi h.p21, p22 := rp hi h.p22, p23 := rp hi h.p23, p24 := rp hi h.p24 }⟩
            · have hi : 21 < d.size := by omega
              have e20 := h.p20 (hpre _ rfl ⟨20, .data⟩ (by simp) rfl)
              obtain ⟨m0, m1, m2, m3, n0, n1, n2, n3⟩ := CQ.out wc h.bel
              refine wpOp_guard rfl (wanted_of (d := 32) rfl rfl (h.p13 (hpre _ rfl ⟨13, .guard⟩ (by simp) rfl))) ?_
              go_simp
              exact ⟨_, rfl, { bel := h.bel, siz := (by simpa using h.siz), kp := rk h.kp, k3 := rs h.k3, k5 := rs h.k5, k6 := rs h.k6, p0 := rp hi h.p0, p1 := rp hi h.p1, p2 := rp hi h.p2, p3 := rp hi h.p3, p4 := rp hi h.p4, p5 := rp hi h.p5, p6 := rp hi h.p6, p7 := rp hi h.p7, p8 := rp hi h.p8, p9 := rp hi h.p9, p10 := rp hi h.p10, p11 := rp hi h.p11, p12 := rp hi h.p12, p13 := rp hi h.p13, p14 := rp hi h.p14, p15 := rp hi h.p15, p16 := rp hi h.p16, p17 := rp hi h.p17, p18 := rp hi h.p18, p19 := rp hi h.p19, p20 := rp hi h.p20, p21 := fun _ => set_same (by have := h.siz; omega), p22 := rp hi h.p22, p23 := rp hi h.p23, p24 := rp hi h.p24 }⟩
            · have hi : 22 < d.size := by omega
              have e21 := h.p21 (hpre _ rfl ⟨21, .data⟩ (by simp) rfl)
              refine wpOp_guard rfl (wanted_of (d := 32) rfl rfl (h.p13 (hpre _ rfl ⟨13, .guard⟩ (by simp) rfl))) ?_
              go_simp
              try simp (disch := omega) only [IntWalk.i64_in]
              exact ⟨_, rfl, { bel := h.bel, siz := (by simpa using h.siz), kp := rk h.kp, k3 := rs h.k3, k5 := rs h.k5, k6 := rs h.k6, p0 := rp hi h.p0, p1 := rp hi h.p1, p2 := rp hi h.p2, p3 := rp hi h.p3, p4 := rp hi h.p4, p5 := rp hi h.p5, p6 := rp hi h.p6, p7 := rp hi h.p7, p8 := rp hi h.p8, p9 := rp hi h.p9, p10 := rp hi h.p10, p11 := rp hi h.p11, p12 := rp hi h.p12, p13 := rp hi h.p13, p14 := rp hi h.p14, p15 := rp hi h.p15, p16 := rp hi h.p16, p17 := rp hi h.p17, p18 := rp hi h.p18, p19 := rp hi h.p19, p20 := rp hi h.p20, p21 := rp hi h.p21, p22 := fun _ => set_same (by have := h.siz; omega), p23 := rp hi h.p23, p24 := rp hi h.p24 }⟩
            · have hi : 23 < d.size := by omega
              have e15 := h.p15 (hpre _ rfl ⟨15, .data⟩ (by simp) rfl)
              have e22 := h.p22 (hpre _ rfl ⟨22, .data⟩ (by simp) rfl)
              refine wpOp_guard rfl (wanted_of (d := 32) rfl rfl (h.p13 (hpre _ rfl ⟨13, .guard⟩ (by simp) rfl))) ?_
              go_simp
              exact ⟨_, rfl, { bel := h.bel, siz := (by simpa using h.siz), kp := rk h.kp, k3 := rs h.k3, k5 := rs h.k5, k6 := rs h.k6, p0 := rp hi h.p0, p1 := rp hi h.p1, p2 := rp hi h.p2, p3 := rp hi h.p3, p4 := rp hi h.p4, p5 := rp hi h.p5, p6 := rp hi h.p6, p7 := rp hi h.p7, p8 := rp hi h.p8, p9 := rp hi h.p9, p10 := rp hi h.p10, p11 := rp hi h.p11, p12 := rp hi h.p12, p13 := rp hi h.p13, p14 := rp hi h.p14, p15 := rp hi h.p15, p16 := rp hi h.p16, p17 := rp hi h.p17, p18 := rp hi h.p18, p19 := rp hi h.p19, p20 := rp hi h.p20, p21 := rp hi h.p21, p22 := rp hi h.p22, p23 := fun _ => set_same (by have := h.siz; omega), p24 := rp hi h.p24 }⟩
            · have hi : 24 < d.size := by omega
              have e13 := h.p13 (hpre _ rfl ⟨13, .data⟩ (by simp) rfl)
              have e23 := h.p23 (hpre _ rfl ⟨23, .data⟩ (by simp) rfl)
              refine wpOp_plain rfl rfl ?_
              go_simp
              exact ⟨_, rfl, { bel := h.bel, siz := (by simpa using h.siz), kp := rk h.kp, k3 := rs h.k3, k5 := rs h.k5, k6 := rs h.k6, p0 := rp hi h.p0, p1 := rp hi h.p1, p2 := rp hi h.p2, p3 := rp hi h.p3, p4 := rp hi h.p4, p5 := rp hi h.p5, p6 := rp hi h.p6, p7 := rp hi h.p7, p8 := rp hi h.p8, p9 := rp hi h.p9, p10 := rp hi h.p10, p11 := rp hi h.p11, p12 := rp hi h.p12, p13 := rp hi h.p13, p14 := rp hi h.p14, p15 := rp hi h.p15, p16 := rp hi h.p16, p17 := rp hi h.p17, p18 := rp hi h.p18, p19 := rp hi h.p19, p20 := rp hi h.p20, p21 := rp hi h.p21, p22 := rp hi h.p22, p23 := rp hi h.p23, p24 := fun _ => set_same (by have := h.siz; omega) }⟩
          case gendc =>
            intro d a wc hd hI hall
            obtain ⟨t, rfl, h⟩ := hI
            have hdn : ∀ j, j < 25 → dn d j := fun j hj => dn_all hd hall hj
            have hd : ∀ j, (_ : j < 25 := by decide) → dn d j := fun j hj => hdn j hj
            have hfe := frame_eq [(19, _), (20, _), (21, _), (22, _), (23, _), (24, _), (25, _), (26, _), (27, _), (28, _), (29, _), (30, _), (31, _), (32, _), (33, _), (34, _), (35, _), (36, _), (37, _), (38, _), (39, _), (40, _), (41, _), (42, _), (43, _)] (h.siz.trans rfl) h.kp rfl ⟨h.p0 (hd 0), h.p1 (hd 1), h.p2 (hd 2), h.p3 (hd 3), h.p4 (hd 4), h.p5 (hd 5), h.p6 (hd 6), h.p7 (hd 7), h.p8 (hd 8), h.p9 (hd 9), h.p10 (hd 10), h.p11 (hd 11), h.p12 (hd 12), h.p13 (hd 13), h.p14 (hd 14), h.p15 (hd 15), h.p16 (hd 16), h.p17 (hd 17), h.p18 (hd 18), h.p19 (hd 19), h.p20 (hd 20), h.p21 (hd 21), h.p22 (hd 22), h.p23 (hd 23), h.p24 (hd 24), trivial⟩
            simp only [List.foldl_cons, List.foldl_nil, List.setIfInBounds_toArray, List.set_cons_succ, List.set_cons_zero] at hfe
            have hbc := h.bel
            subst hfe
            clear h hdn hd hall
            have HBX := Lib.hid (HBS.out.trans (hbc.mono HBS.out.size))
            have HXR := Lib.hid (HRS.out.trans (hbc.mono HRS.out.size))
            have hbw := hbc
            clear hbc
            obtain ⟨n0, n1, n2, n3⟩ := CVS.out wc hbw
            have HOS : Hid ((wc.alloc (.cells #[.int .i64 ku, .string su, .int .i64 lv, .int .i64 hv] 60)).ownsRow w2.heap.size 60 4 (.slice (some ⟨b, 0, none⟩) (m + 1) cv) (m + 1) ((r ++ [(⟨ku, su, lu, hu⟩ : Sg.Value)]).flatMap encValue)) := Lib.hid (keep_own HOK.out (HXR.out.alloc HXR.out.size _))
            have HRD := Lib.hid (rd_one_value wc ⟨ku, su, lv, hv⟩)
            have hk1 : (m + 1) + 1 ≤ maxLen := by simp only [maxLen]; omega
            have hk2 : ((m + 1) + 1) * 40 ≤ 140737488355328 := by omega
            have hbase : w2.heap.size ≤ (wc.alloc (.cells #[.int .i64 ku, .string su, .int .i64 lv, .int .i64 hv] 60)).heap.size := by have := HBX.out.size; simp; omega
            go_wp2_with (at_builtin; go_must (refine wpList_append_rd (enc := encValue) rfl (.tmp 58) (.tmp 60) _ rfl w2.heap.size 60 i1 _ 4 40 len_value one_value Tryz.underlying47 hi1 hz1 hs1' hb1' rfl (by decide) (.slice (some ⟨b, 0, none⟩) (m + 1) cv) (m + 1) ((r ++ [(⟨ku, su, lu, hu⟩ : Sg.Value)]).flatMap encValue) rfl HOS.out _ (.slice (some ⟨wc.heap.size, 0, none⟩) 1 1) [⟨ku, su, lv, hv⟩] rfl HRD.out hk1 hk2 hbase ?_))
            intro v8 w8 hown8 hg8 hat8
            have HB8 : Hid (Below w2.heap.size w2 w8) := Lib.hid ((HBX.out.alloc HBX.out.size _).grown hg8 hbase (fun q hq => (HOS.out.lt q hq).1))
            have HO8 := Lib.hid (own_valueM HMR.out hown8)
            clear hown8 hg8 hat8 n0 n1 n2 n3
            go_wp2_with fail
            go_roundg (S.length - (k + 1))
            case measure => omega
            case rel => exact ⟨k + 1, (r ++ [(⟨ku, su, lu, hu⟩ : Sg.Value)]) ++ [⟨ku, su, lv, hv⟩], by omega, rfl, by go_num, HB8.out, HO8.out, HNX.out⟩
        have HNX : Hid (Sg.mergeV (S.take (k + 1)) = r ++ [⟨ku, su, lu, max hu hv⟩]) := Lib.hid (by rw [hnx]; exact Sg.mergeS_join ⟨⟨rfl, rfl⟩, hle⟩)
        clear hnx
        go_upto_region 8 with fail
        rw [← HWS.out]
        clear f0 f1 f2 f3
        refine wp_region_inv2T (fun T0 => TdcI T0 wS b m cv wr.heap.size ku su lu hu ku su lv hv true) (by kernel_rfl) (by kernel_rfl) ?g0c ?gstepc ?gendc
        case g0c =>
          have hno : ∀ j, ¬ dn (Array.replicate 25 false) j := by
            intro j; unfold dn; by_cases hj : j < 25 <;> simp [Array.getD, hj]
          have na : ∀ {j : Nat} {Z : Prop}, dn (Array.replicate 25 false) j → Z := fun hj => absurd hj (hno _)
          exact ⟨_, rfl, { bel := (Below.refl _ _).drew, siz := rfl, kp := fun _ _ => rfl, k3 := rfl, k5 := rfl, k6 := rfl, p0 := na, p1 := na, p2 := na, p3 := na, p4 := na, p5 := na, p6 := na, p7 := na, p8 := na, p9 := na, p10 := na, p11 := na, p12 := na, p13 := na, p14 := na, p15 := na, p16 := na, p17 := na, p18 := na, p19 := na, p20 := na, p21 := na, p22 := na, p23 := na, p24 := na }⟩
        case gstepc =>
          intro T0 d a wc i hd hI hi
          obtain ⟨hlt, hnd, hpre⟩ := mem_ready hi
          have hd' : d.size = 25 := hd
          have hin : i < 25 := hlt
          clear hi hd hlt
          obtain ⟨t, rfl, h⟩ := hI
          have hcs : i = 0 ∨ i = 1 ∨ i = 2 ∨ i = 3 ∨ i = 4 ∨ i = 5 ∨ i = 6 ∨ i = 7 ∨ i = 8 ∨ i = 9 ∨ i = 10 ∨ i = 11 ∨ i = 12 ∨ i = 13 ∨ i = 14 ∨ i = 15 ∨ i = 16 ∨ i = 17 ∨ i = 18 ∨ i = 19 ∨ i = 20 ∨ i = 21 ∨ i = 22 ∨ i = 23 ∨ i = 24 := by omega
          rcases hcs with rfl | rfl | rfl | rfl | rfl | rfl | rfl | rfl | rfl | rfl | rfl | rfl | rfl | rfl | rfl | rfl | rfl | rfl | rfl | rfl | rfl | rfl | rfl | rfl | rfl
          · have hi : 0 < d.size := by omega
            have q6 := h.k6
            refine wpOp_plain rfl rfl ?_
            go_simp
            exact ⟨_, rfl, { bel := h.bel, siz := (by simpa using h.siz), kp := rk h.kp, k3 := rs h.k3, k5 := rs h.k5, k6 := rs h.k6, p0 := fun _ => set_same (by have := h.siz; omega), p1 := rp hi h.p1, p2 := rp hi h.p2, p3 := rp hi h.p3, p4 := rp hi h.p4, p5 := rp hi h.p5, p6 := rp hi h.p6, p7 := rp hi h.p7, p8 := rp hi h.p8, p9 := rp hi h.p9, p10 := rp hi h.p10, p11 := rp hi h.p11, p12 := rp hi h.p12, p13 := rp hi h.p13, p14 := rp hi h.p14, p15 := rp hi h.p15, p16 := rp hi h.p16, p17 := rp hi h.p17, p18 := rp hi h.p18, p19 := rp hi h.p19, p20 := rp hi h.p20, p21 := rp hi h.p21, p22 := rp hi h.p22, p23 := rp hi h.p23, p24 := rp hi h.p24 }⟩
          · have hi : 1 < d.size := by omega
            have e0 := h.p0 (hpre _ rfl ⟨0, .data⟩ (by simp) rfl)
            refine wpOp_plain rfl rfl ?_
            go_simp
            exact ⟨_, rfl, { bel := h.bel, siz := (by simpa using h.siz), kp := rk h.kp, k3 := rs h.k3, k5 := rs h.k5, k6 := rs h.k6, p0 := rp hi h.p0, p1 := fun _ => set_same (by have := h.siz; omega), p2 := rp hi h.p2, p3 := rp hi h.p3, p4 := rp hi h.p4, p5 := rp hi h.p5, p6 := rp hi h.p6, p7 := rp hi h.p7, p8 := rp hi h.p8, p9 := rp hi h.p9, p10 := rp hi h.p10, p11 := rp hi h.p11, p12 := rp hi h.p12, p13 := rp hi h.p13, p14 := rp hi h.p14, p15 := rp hi h.p15, p16 := rp hi h.p16, p17 := rp hi h.p17, p18 := rp hi h.p18, p19 := rp hi h.p19, p20 := rp hi h.p20, p21 := rp hi h.p21, p22 := rp hi h.p22, p23 := rp hi h.p23, p24 := rp hi h.p24 }⟩
          · have hi : 2 < d.size := by omega
            have e1 := h.p1 (hpre _ rfl ⟨1, .data⟩ (by simp) rfl)
            refine wpOp_plain rfl rfl ?_
            go_simp
            exact ⟨_, rfl, { bel := h.bel, siz := (by simpa using h.siz), kp := rk h.kp, k3 := rs h.k3, k5 := rs h.k5, k6 := rs h.k6, p0 := rp hi h.p0, p1 := rp hi h.p1, p2 := fun _ => set_same (by have := h.siz; omega), p3 := rp hi h.p3, p4 := rp hi h.p4, p5 := rp hi h.p5, p6 := rp hi h.p6, p7 := rp hi h.p7, p8 := rp hi h.p8, p9 := rp hi h.p9, p10 := rp hi h.p10, p11 := rp hi h.p11, p12 := rp hi h.p12, p13 := rp hi h.p13, p14 := rp hi h.p14, p15 := rp hi h.p15, p16 := rp hi h.p16, p17 := rp hi h.p17, p18 := rp hi h.p18, p19 := rp hi h.p19, p20 := rp hi h.p20, p21 := rp hi h.p21, p22 := rp hi h.p22, p23 := rp hi h.p23, p24 := rp hi h.p24 }⟩
          · have hi : 3 < d.size := by omega
            have q3 := h.k3
            refine wpOp_guard rfl (wanted_of (d := 21) rfl rfl (h.p2 (hpre _ rfl ⟨2, .guard⟩ (by simp) rfl))) ?_
            go_simp
            exact ⟨_, rfl, { bel := h.bel, siz := (by simpa using h.siz), kp := rk h.kp, k3 := rs h.k3, k5 := rs h.k5, k6 := rs h.k6, p0 := rp hi h.p0, p1 := rp hi h.p1, p2 := rp hi h.p2, p3 := fun _ => set_same (by have := h.siz; omega), p4 := rp hi h.p4, p5 := rp hi h.p5, p6 := rp hi h.p6, p7 := rp hi h.p7, p8 := rp hi h.p8, p9 := rp hi h.p9, p10 := rp hi h.p10, p11 := rp hi h.p11, p12 := rp hi h.p12, p13 := rp hi h.p13, p14 := rp hi h.p14, p15 := rp hi h.p15, p16 := rp hi h.p16, p17 := rp hi h.p17, p18 := rp hi h.p18, p19 := rp hi h.p19, p20 := rp hi h.p20, p21 := rp hi h.p21, p22 := rp hi h.p22, p23 := rp hi h.p23, p24 := rp hi h.p24 }⟩
          · have hi : 4 < d.size := by omega
            have q6 := h.k6
            refine wpOp_guard rfl (wanted_of (d := 21) rfl rfl (h.p2 (hpre _ rfl ⟨2, .guard⟩ (by simp) rfl))) ?_
            go_simp
            exact ⟨_, rfl, { bel := h.bel, siz := (by simpa using h.siz), kp := rk h.kp, k3 := rs h.k3, k5 := rs h.k5, k6 := rs h.k6, p0 := rp hi h.p0, p1 := rp hi h.p1, p2 := rp hi h.p2, p3 := rp hi h.p3, p4 := fun _ => set_same (by have := h.siz; omega), p5 := rp hi h.p5, p6 := rp hi h.p6, p7 := rp hi h.p7, p8 := rp hi h.p8, p9 := rp hi h.p9, p10 := rp hi h.p10, p11 := rp hi h.p11, p12 := rp hi h.p12, p13 := rp hi h.p13, p14 := rp hi h.p14, p15 := rp hi h.p15, p16 := rp hi h.p16, p17 := rp hi h.p17, p18 := rp hi h.p18, p19 := rp hi h.p19, p20 := rp hi h.p20, p21 := rp hi h.p21, p22 := rp hi h.p22, p23 := rp hi h.p23, p24 := rp hi h.p24 }⟩
          · have hi : 5 < d.size := by omega
            have e4 := h.p4 (hpre _ rfl ⟨4, .data⟩ (by simp) rfl)
            refine wpOp_guard rfl (wanted_of (d := 21) rfl rfl (h.p2 (hpre _ rfl ⟨2, .guard⟩ (by simp) rfl))) ?_
            go_simp
            try simp (disch := omega) only [IntWalk.i64_in]
            exact ⟨_, rfl, { bel := h.bel, siz := (by simpa using h.siz), kp := rk h.kp, k3 := rs h.k3, k5 := rs h.k5, k6 := rs h.k6, p0 := rp hi h.p0, p1 := rp hi h.p1, p2 := rp hi h.p2, p3 := rp hi h.p3, p4 := rp hi h.p4, p5 := fun _ => set_same (by have := h.siz; omega), p6 := rp hi h.p6, p7 := rp hi h.p7, p8 := rp hi h.p8, p9 := rp hi h.p9, p10 := rp hi h.p10, p11 := rp hi h.p11, p12 := rp hi h.p12, p13 := rp hi h.p13, p14 := rp hi h.p14, p15 := rp hi h.p15, p16 := rp hi h.p16, p17 := rp hi h.p17, p18 := rp hi h.p18, p19 := rp hi h.p19, p20 := rp hi h.p20, p21 := rp hi h.p21, p22 := rp hi h.p22, p23 := rp hi h.p23, p24 := rp hi h.p24 }⟩
          · have hi : 6 < d.size := by omega
            have e3 := h.p3 (hpre _ rfl ⟨3, .data⟩ (by simp) rfl)
            have e5 := h.p5 (hpre _ rfl ⟨5, .data⟩ (by simp) rfl)
            refine wpOp_guard rfl (wanted_of (d := 21) rfl rfl (h.p2 (hpre _ rfl ⟨2, .guard⟩ (by simp) rfl))) ?_
            go_simp
            exact ⟨_, rfl, { bel := h.bel, siz := (by simpa using h.siz), kp := rk h.kp, k3 := rs h.k3, k5 := rs h.k5, k6 := rs h.k6, p0 := rp hi h.p0, p1 := rp hi h.p1, p2 := rp hi h.p2, p3 := rp hi h.p3, p4 := rp hi h.p4, p5 := rp hi h.p5, p6 := fun _ => set_same (by have := h.siz; omega), p7 := rp hi h.p7, p8 := rp hi h.p8, p9 := rp hi h.p9, p10 := rp hi h.p10, p11 := rp hi h.p11, p12 := rp hi h.p12, p13 := rp hi h.p13, p14 := rp hi h.p14, p15 := rp hi h.p15, p16 := rp hi h.p16, p17 := rp hi h.p17, p18 := rp hi h.p18, p19 := rp hi h.p19, p20 := rp hi h.p20, p21 := rp hi h.p21, p22 := rp hi h.p22, p23 := rp hi h.p23, p24 := rp hi h.p24 }⟩
          · have hi : 7 < d.size := by omega
            have e6 := h.p6 (hpre _ rfl ⟨6, .data⟩ (by simp) rfl)
            obtain ⟨m0, m1, m2, m3, n0, n1, n2, n3⟩ := CQ.out wc h.bel
            refine wpOp_guard rfl (wanted_of (d := 21) rfl rfl (h.p2 (hpre _ rfl ⟨2, .guard⟩ (by simp) rfl))) ?_
            go_simp
            exact ⟨_, rfl, { bel := h.bel, siz := (by simpa using h.siz), kp := rk h.kp, k3 := rs h.k3, k5 := rs h.k5, k6 := rs h.k6, p0 := rp hi h.p0, p1 := rp hi h.p1, p2 := rp hi h.p2, p3 := rp hi h.p3, p4 := rp hi h.p4, p5 := rp hi h.p5, p6 := rp hi h.p6, p7 := fun _ => set_same (by have := h.siz; omega), p8 := rp hi h.p8, p9 := rp hi h.p9, p10 := rp hi h.p10, p11 := rp hi h.p11, p12 := rp hi h.p12, p13 := rp hi h.p13, p14 := rp hi h.p14, p15 := rp hi h.p15, p16 := rp hi h.p16, p17 := rp hi h.p17, p18 := rp hi h.p18, p19 := rp hi h.p19, p20 := rp hi h.p20, p21 := rp hi h.p21, p22 := rp hi h.p22, p23 := rp hi h.p23, p24 := rp hi h.p24 }⟩
          · have hi : 8 < d.size := by omega
            have e7 := h.p7 (hpre _ rfl ⟨7, .data⟩ (by simp) rfl)
            refine wpOp_guard rfl (wanted_of (d := 21) rfl rfl (h.p2 (hpre _ rfl ⟨2, .guard⟩ (by simp) rfl))) ?_
            go_simp
            refine (gOf_any ⟨ku, su, lu, hu⟩ wc).mono ?_
            rintro e1 w1 ⟨rfl, hb⟩
            exact ⟨_, rfl, { bel := h.bel.trans (hb.mono h.bel.size), siz := (by simpa using h.siz), kp := rk h.kp, k3 := rs h.k3, k5 := rs h.k5, k6 := rs h.k6, p0 := rp hi h.p0, p1 := rp hi h.p1, p2 := rp hi h.p2, p3 := rp hi h.p3, p4 := rp hi h.p4, p5 := rp hi h.p5, p6 := rp hi h.p6, p7 := rp hi h.p7, p8 := fun _ => set_same (by have := h.siz; omega), p9 := rp hi h.p9, p10 := rp hi h.p10, p11 := rp hi h.p11, p12 := rp hi h.p12, p13 := rp hi h.p13, p14 := rp hi h.p14, p15 := rp hi h.p15, p16 := rp hi h.p16, p17 := rp hi h.p17, p18 := rp hi h.p18, p19 := rp hi h.p19, p20 := rp hi h.p20, p21 := rp hi h.p21, p22 := rp hi h.p22, p23 := rp hi h.p23, p24 := rp hi h.p24 }⟩
          · have hi : 9 < d.size := by omega
            have q5 := h.k5
            obtain ⟨m0, m1, m2, m3, n0, n1, n2, n3⟩ := CQ.out wc h.bel
            refine wpOp_guard rfl (wanted_of (d := 21) rfl rfl (h.p2 (hpre _ rfl ⟨2, .guard⟩ (by simp) rfl))) ?_
            go_simp
            exact ⟨_, rfl, { bel := h.bel, siz := (by simpa using h.siz), kp := rk h.kp, k3 := rs h.k3, k5 := rs h.k5, k6 := rs h.k6, p0 := rp hi h.p0, p1 := rp hi h.p1, p2 := rp hi h.p2, p3 := rp hi h.p3, p4 := rp hi h.p4, p5 := rp hi h.p5, p6 := rp hi h.p6, p7 := rp hi h.p7, p8 := rp hi h.p8, p9 := fun _ => set_same (by have := h.siz; omega), p10 := rp hi h.p10, p11 := rp hi h.p11, p12 := rp hi h.p12, p13 := rp hi h.p13, p14 := rp hi h.p14, p15 := rp hi h.p15, p16 := rp hi h.p16, p17 := rp hi h.p17, p18 := rp hi h.p18, p19 := rp hi h.p19, p20 := rp hi h.p20, p21 := rp hi h.p21, p22 := rp hi h.p22, p23 := rp hi h.p23, p24 := rp hi h.p24 }⟩
          · have hi : 10 < d.size := by omega
            have e9 := h.p9 (hpre _ rfl ⟨9, .data⟩ (by simp) rfl)
            refine wpOp_guard rfl (wanted_of (d := 21) rfl rfl (h.p2 (hpre _ rfl ⟨2, .guard⟩ (by simp) rfl))) ?_
            go_simp
            refine (gOf_any ⟨ku, su, lv, hv⟩ wc).mono ?_
            rintro e1 w1 ⟨rfl, hb⟩
            exact ⟨_, rfl, { bel := h.bel.trans (hb.mono h.bel.size), siz := (by simpa using h.siz), kp := rk h.kp, k3 := rs h.k3, k5 := rs h.k5, k6 := rs h.k6, p0 := rp hi h.p0, p1 := rp hi h.p1, p2 := rp hi h.p2, p3 := rp hi h.p3, p4 := rp hi h.p4, p5 := rp hi h.p5, p6 := rp hi h.p6, p7 := rp hi h.p7, p8 := rp hi h.p8, p9 := rp hi h.p9, p10 := fun _ => set_same (by have := h.siz; omega), p11 := rp hi h.p11, p12 := rp hi h.p12, p13 := rp hi h.p13, p14 := rp hi h.p14, p15 := rp hi h.p15, p16 := rp hi h.p16, p17 := rp hi h.p17, p18 := rp hi h.p18, p19 := rp hi h.p19, p20 := rp hi h.p20, p21 := rp hi h.p21, p22 := rp hi h.p22, p23 := rp hi h.p23, p24 := rp hi h.p24 }⟩
          · have hi : 11 < d.size := by omega
            have e8 := h.p8 (hpre _ rfl ⟨8, .data⟩ (by simp) rfl)
            have e10 := h.p10 (hpre _ rfl ⟨10, .data⟩ (by simp) rfl)
            refine wpOp_guard rfl (wanted_of (d := 21) rfl rfl (h.p2 (hpre _ rfl ⟨2, .guard⟩ (by simp) rfl))) ?_
            go_simp
            exact ⟨_, rfl, { bel := h.bel, siz := (by simpa using h.siz), kp := rk h.kp, k3 := rs h.k3, k5 := rs h.k5, k6 := rs h.k6, p0 := rp hi h.p0, p1 := rp hi h.p1, p2 := rp hi h.p2, p3 := rp hi h.p3, p4 := rp hi h.p4, p5 := rp hi h.p5, p6 := rp hi h.p6, p7 := rp hi h.p7, p8 := rp hi h.p8, p9 := rp hi h.p9, p10 := rp hi h.p10, p11 := fun _ => set_same (by have := h.siz; omega), p12 := rp hi h.p12, p13 := rp hi h.p13, p14 := rp hi h.p14, p15 := rp hi h.p15, p16 := rp hi h.p16, p17 := rp hi h.p17, p18 := rp hi h.p18, p19 := rp hi h.p19, p20 := rp hi h.p20, p21 := rp hi h.p21, p22 := rp hi h.p22, p23 := rp hi h.p23, p24 := rp hi h.p24 }⟩
          · have hi : 12 < d.size := by omega
            have e2 := h.p2 (hpre _ rfl ⟨2, .data⟩ (by simp) rfl)
            have e11 := h.p11 (hpre _ rfl ⟨11, .data⟩ (by simp) rfl)
            refine wpOp_plain rfl rfl ?_
            go_simp
            exact ⟨_, rfl, { bel := h.bel, siz := (by simpa using h.siz), kp := rk h.kp, k3 := rs h.k3, k5 := rs h.k5, k6 := rs h.k6, p0 := rp hi h.p0, p1 := rp hi h.p1, p2 := rp hi h.p2, p3 := rp hi h.p3, p4 := rp hi h.p4, p5 := rp hi h.p5, p6 := rp hi h.p6, p7 := rp hi h.p7, p8 := rp hi h.p8, p9 := rp hi h.p9, p10 := rp hi h.p10, p11 := rp hi h.p11, p12 := fun _ => set_same (by have := h.siz; omega), p13 := rp hi h.p13, p14 := rp hi h.p14, p15 := rp hi h.p15, p16 := rp hi h.p16, p17 := rp hi h.p17, p18 := rp hi h.p18, p19 := rp hi h.p19, p20 := rp hi h.p20, p21 := rp hi h.p21, p22 := rp hi h.p22, p23 := rp hi h.p23, p24 := rp hi h.p24 }⟩
          · have hi : 13 < d.size := by omega
            have e12 := h.p12 (hpre _ rfl ⟨12, .data⟩ (by simp) rfl)
            refine wpOp_plain rfl rfl ?_
            go_simp
            exact ⟨_, rfl, { bel := h.bel, siz := (by simpa using h.siz), kp := rk h.kp, k3 := rs h.k3, k5 := rs h.k5, k6 := rs h.k6, p0 := rp hi h.p0, p1 := rp hi h.p1, p2 := rp hi h.p2, p3 := rp hi h.p3, p4 := rp hi h.p4, p5 := rp hi h.p5, p6 := rp hi h.p6, p7 := rp hi h.p7, p8 := rp hi h.p8, p9 := rp hi h.p9, p10 := rp hi h.p10, p11 := rp hi h.p11, p12 := rp hi h.p12, p13 := fun _ => set_same (by have := h.siz; omega), p14 := rp hi h.p14, p15 := rp hi h.p15, p16 := rp hi h.p16, p17 := rp hi h.p17, p18 := rp hi h.p18, p19 := rp hi h.p19, p20 := rp hi h.p20, p21 := rp hi h.p21, p22 := rp hi h.p22, p23 := rp hi h.p23, p24 := rp hi h.p24 }⟩
          · have hi : 14 < d.size := by omega
            have q5 := h.k5
            refine wpOp_guard rfl (wanted_of (d := 32) rfl rfl (h.p13 (hpre _ rfl ⟨13, .guard⟩ (by simp) rfl))) ?_
            go_simp
            exact ⟨_, rfl, { bel := h.bel, siz := (by simpa using h.siz), kp := rk h.kp, k3 := rs h.k3, k5 := rs h.k5, k6 := rs h.k6, p0 := rp hi h.p0, p1 := rp hi h.p1, p2 := rp hi h.p2, p3 := rp hi h.p3, p4 := rp hi h.p4, p5 := rp hi h.p5, p6 := rp hi h.p6, p7 := rp hi h.p7, p8 := rp hi h.p8, p9 := rp hi h.p9, p10 := rp hi h.p10, p11 := rp hi h.p11, p12 := rp hi h.p12, p13 := rp hi h.p13, p14 := fun _ => set_same (by have := h.siz; omega), p15 := rp hi h.p15, p16 := rp hi h.p16, p17 := rp hi h.p17, p18 := rp hi h.p18, p19 := rp hi h.p19, p20 := rp hi h.p20, p21 := rp hi h.p21, p22 := rp hi h.p22, p23 := rp hi h.p23, p24 := rp hi h.p24 }⟩
          · have hi : 15 < d.size := by omega
            have e14 := h.p14 (hpre _ rfl ⟨14, .data⟩ (by simp) rfl)
            obtain ⟨m0, m1, m2, m3, n0, n1, n2, n3⟩ := CQ.out wc h.bel
            refine wpOp_guard rfl (wanted_of (d := 32) rfl rfl (h.p13 (hpre _ rfl ⟨13, .guard⟩ (by simp) rfl))) ?_
            go_simp
            exact ⟨_, rfl, { bel := h.bel, siz := (by simpa using h.siz), kp := rk h.kp, k3 := rs h.k3, k5 := rs h.k5, k6 := rs h.k6, p0 := rp hi h.p0, p1 := rp hi h.p1, p2 := rp hi h.p2, p3 := rp hi h.p3, p4 := rp hi h.p4, p5 := rp hi h.p5, p6 := rp hi h.p6, p7 := rp hi h.p7, p8 := rp hi h.p8, p9 := rp hi h.p9, p10 := rp hi h.p10, p11 := rp hi h.p11, p12 := rp hi h.p12, p13 := rp hi h.p13, p14 := rp hi h.p14, p15 := fun _ => set_same (by have := h.siz; omega), p16 := rp hi h.p16, p17 := rp hi h.p17, p18 := rp hi h.p18, p19 := rp hi h.p19, p20 := rp hi h.p20, p21 := rp hi h.p21, p22 := rp hi h.p22, p23 := rp hi h.p23, p24 := rp hi h.p24 }⟩
          · have hi : 16 < d.size := by omega
            have q3 := h.k3
            refine wpOp_guard rfl (wanted_of (d := 32) rfl rfl (h.p13 (hpre _ rfl ⟨13, .guard⟩ (by simp) rfl))) ?_
            go_simp
            exact ⟨_, rfl, { bel := h.bel, siz := (by simpa using h.siz), kp := rk h.kp, k3 := rs h.k3, k5 := rs h.k5, k6 := rs h.k6, p0 := rp hi h.p0, p1 := rp hi h.p1, p2 := rp hi h.p2, p3 := rp hi h.p3, p4 := rp hi h.p4, p5 := rp hi h.p5, p6 := rp hi h.p6, p7 := rp hi h.p7, p8 := rp hi h.p8, p9 := rp hi h.p9, p10 := rp hi h.p10, p11 := rp hi h.p11, p12 := rp hi h.p12, p13 := rp hi h.p13, p14 := rp hi h.p14, p15 := rp hi h.p15, p16 := fun _ => set_same (by have := h.siz; omega), p17 := rp hi h.p17, p18 := rp hi h.p18, p19 := rp hi h.p19, p20 := rp hi h.p20, p21 := rp hi h.p21, p22 := rp hi h.p22, p23 := rp hi h.p23, p24 := rp hi h.p24 }⟩
          · have hi : 17 < d.size := by omega
            have q6 := h.k6
            refine wpOp_guard rfl (wanted_of (d := 32) rfl rfl (h.p13 (hpre _ rfl ⟨13, .guard⟩ (by simp) rfl))) ?_
            go_simp
            exact ⟨_, rfl, { bel := h.bel, siz := (by simpa using h.siz), kp := rk h.kp, k3 := rs h.k3, k5 := rs h.k5, k6 := rs h.k6, p0 := rp hi h.p0, p1 := rp hi h.p1, p2 := rp hi h.p2, p3 := rp hi h.p3, p4 := rp hi h.p4, p5 := rp hi h.p5, p6 := rp hi h.p6, p7 := rp hi h.p7, p8 := rp hi h.p8, p9 := rp hi h.p9, p10 := rp hi h.p10, p11 := rp hi h.p11, p12 := rp hi h.p12, p13 := rp hi h.p13, p14 := rp hi h.p14, p15 := rp hi h.p15, p16 := rp hi h.p16, p17 := fun _ => set_same (by have := h.siz; omega), p18 := rp hi h.p18, p19 := rp hi h.p19, p20 := rp hi h.p20, p21 := rp hi h.p21, p22 := rp hi h.p22, p23 := rp hi h.p23, p24 := rp hi h.p24 }⟩
          · have hi : 18 < d.size := by omega
            have e17 := h.p17 (hpre _ rfl ⟨17, .data⟩ (by simp) rfl)
            refine wpOp_guard rfl (wanted_of (d := 32) rfl rfl (h.p13 (hpre _ rfl ⟨13, .guard⟩ (by simp) rfl))) ?_
            go_simp
            try simp (disch := omega) only [IntWalk.i64_in]
            exact ⟨_, rfl, { bel := h.bel, siz := (by simpa using h.siz), kp := rk h.kp, k3 := rs h.k3, k5 := rs h.k5, k6 := rs h.k6, p0 := rp hi h.p0, p1 := rp hi h.p1, p2 := rp hi h.p2, p3 := rp hi h.p3, p4 := rp hi h.p4, p5 := rp hi h.p5, p6 := rp hi h.p6, p7 := rp hi h.p7, p8 := rp hi h.p8, p9 := rp hi h.p9, p10 := rp hi h.p10, p11 := rp hi h.p11, p12 := rp hi h.p12, p13 := rp hi h.p13, p14 := rp hi h.p14, p15 := rp hi h.p15, p16 := rp hi h.p16, p17 := rp hi h.p17, p18 := fun _ => set_same (by have := h.siz; omega), p19 := rp hi h.p19, p20 := rp hi h.p20, p21 := rp hi h.p21, p22 := rp hi h.p22, p23 := rp hi h.p23, p24 := rp hi h.p24 }⟩
          · have hi : 19 < d.size := by omega
            have e16 := h.p16 (hpre _ rfl ⟨16, .data⟩ (by simp) rfl)
            have e18 := h.p18 (hpre _ rfl ⟨18, .data⟩ (by simp) rfl)
            refine wpOp_guard rfl (wanted_of (d := 32) rfl rfl (h.p13 (hpre _ rfl ⟨13, .guard⟩ (by simp) rfl))) ?_
            go_simp
            exact ⟨_, rfl, { bel := h.bel, siz := (by simpa using h.siz), kp := rk h.kp, k3 := rs h.k3, k5 := rs h.k5, k6 := rs h.k6, p0 := rp hi h.p0, p1 := rp hi h.p1, p2 := rp hi h.p2, p3 := rp hi h.p3, p4 := rp hi h.p4, p5 := rp hi h.p5, p6 := rp hi h.p6, p7 := rp hi h.p7, p8 := rp hi h.p8, p9 := rp hi h.p9, p10 := rp hi h.p10, p11 := rp hi h.p11, p12 := rp hi h.p12, p13 := rp hi h.p13, p14 := rp hi h.p14, p15 := rp hi h.p15, p16 := rp hi h.p16, p17 := rp hi h.p17, p18 := rp hi h.p18, p19 := fun _ => set_same (by have := h.siz; omega), p20 := rp hi h.p20, p21 := rp hi h.p21, p22 := rp hi h.p22, p23 := rp hi h.p23, p24 := rp hi h.p24 }⟩
          · have hi : 20 < d.size := by omega
            have e19 := h.p19 (hpre _ rfl ⟨19, .data⟩ (by simp) rfl)
            refine wpOp_guard rfl (wanted_of (d := 32) rfl rfl (h.p13 (hpre _ rfl ⟨13, .guard⟩ (by simp) rfl))) ?_
            go_simp
            exact ⟨_, rfl, { bel := h.bel, siz := (by simpa using h.siz), kp := rk h.kp, k3 := rs h.k3, k5 := rs h.k5, k6 := rs h.k6, p0 := rp hi h.p0, p1 := rp hi h.p1, p2 := rp hi h.p2, p3 := rp hi h.p3, p4 := rp hi h.p4, p5 := rp hi h.p5, p6 := rp hi h.p6, p7 := rp hi h.p7, p8 := rp hi h.p8, p9 := rp hi h.p9, p10 := rp hi h.p10, p11 := rp hi h.p11, p12 := rp hi h.p12, p13 := rp hi h.p13, p14 := rp hi h.p14, p15 := rp hi h.p15, p16 := rp hi h.p16, p17 := rp hi h.p17, p18 := rp hi h.p18, p19 := rp hi h.p19, p20 := fun _ => set_same (by have := h.siz; omega), p21 := rp hi h.p21, p22 := rp hi h.p22, p23 := rp hi h.p23, p24 := rp hi h.p24 }⟩
          · have hi : 21 < d.size := by omega
            have e20 := h.p20 (hpre _ rfl ⟨20, .data⟩ (by simp) rfl)
            obtain ⟨m0, m1, m2, m3, n0, n1, n2, n3⟩ := CQ.out wc h.bel
            refine wpOp_guard rfl (wanted_of (d := 32) rfl rfl (h.p13 (hpre _ rfl ⟨13, .guard⟩ (by simp) rfl))) ?_
            go_simp
            exact ⟨_, rfl, { bel := h.bel, siz := (by simpa using h.siz), kp := rk h.kp, k3 := rs h.k3, k5 := rs h.k5, k6 := rs h.k6, p0 := rp hi h.p0, p1 := rp hi h.p1, p2 := rp hi h.p2, p3 := rp hi h.p3, p4 := rp hi h.p4, p5 := rp hi h.p5, p6 := rp hi h.p6, p7 := rp hi h.p7, p8 := rp hi h.p8, p9 := rp hi h.p9, p10 := rp hi h.p10, p11 := rp hi h.p11, p12 := rp hi h.p12, p13 := rp hi h.p13, p14 := rp hi h.p14, p15 := rp hi h.p15, p16 := rp hi h.p16, p17 := rp hi h.p17, p18 := rp hi h.p18, p19 := rp hi h.p19, p20 := rp hi h.p20, p21 := fun _ => set_same (by have := h.siz; omega), p22 := rp hi h.p22, p23 := rp hi h.p23, p24 := rp hi h.p24 }⟩
          · have hi : 22 < d.size := by omega
            have e21 := h.p21 (hpre _ rfl ⟨21, .data⟩ (by simp) rfl)
            refine wpOp_guard rfl (wanted_of (d := 32) rfl rfl (h.p13 (hpre _ rfl ⟨13, .guard⟩ (by simp) rfl))) ?_
            go_simp
            try simp (disch := omega) only [IntWalk.i64_in]
            exact ⟨_, rfl, { bel := h.bel, siz := (by simpa using h.siz), kp := rk h.kp, k3 := rs h.k3, k5 := rs h.k5, k6 := rs h.k6, p0 := rp hi h.p0, p1 := rp hi h.p1, p2 := rp hi h.p2, p3 := rp hi h.p3, p4 := rp hi h.p4, p5 := rp hi h.p5, p6 := rp hi h.p6, p7 := rp hi h.p7, p8 := rp hi h.p8, p9 := rp hi h.p9, p10 := rp hi h.p10, p11 := rp hi h.p11, p12 := rp hi h.p12, p13 := rp hi h.p13, p14 := rp hi h.p14, p15 := rp hi h.p15, p16 := rp hi h.p16, p17 := rp hi h.p17, p18 := rp hi h.p18, p19 := rp hi h.p19, p20 := rp hi h.p20, p21 := rp hi h.p21, p22 := fun _ => set_same (by have := h.siz; omega), p23 := rp hi h.p23, p24 := rp hi h.p24 }⟩
          · have hi : 23 < d.size := by omega
            have e15 := h.p15 (hpre _ rfl ⟨15, .data⟩ (by simp) rfl)
            have e22 := h.p22 (hpre _ rfl ⟨22, .data⟩ (by simp) rfl)
            refine wpOp_guard rfl (wanted_of (d := 32) rfl rfl (h.p13 (hpre _ rfl ⟨13, .guard⟩ (by simp) rfl))) ?_
            go_simp
            exact ⟨_, rfl, { bel := h.bel, siz := (by simpa using h.siz), kp := rk h.kp, k3 := rs h.k3, k5 := rs h.k5, k6 := rs h.k6, p0 := rp hi h.p0, p1 := rp hi h.p1, p2 := rp hi h.p2, p3 := rp hi h.p3, p4 := rp hi h.p4, p5 := rp hi h.p5, p6 := rp hi h.p6, p7 := rp hi h.p7, p8 := rp hi h.p8, p9 := rp hi h.p9, p10 := rp hi h.p10, p11 := rp hi h.p11, p12 := rp hi h.p12, p13 := rp hi h.p13, p14 := rp hi h.p14, p15 := rp hi h.p15, p16 := rp hi h.p16, p17 := rp hi h.p17, p18 := rp hi h.p18, p19 := rp hi h.p19, p20 := rp hi h.p20, p21 := rp hi h.p21, p22 := rp hi h.p22, p23 := fun _ => set_same (by have := h.siz; omega), p24 := rp hi h.p24 }⟩
          · have hi : 24 < d.size := by omega
            have e13 := h.p13 (hpre _ rfl ⟨13, .data⟩ (by simp) rfl)
            have e23 := h.p23 (hpre _ rfl ⟨23, .data⟩ (by simp) rfl)
            refine wpOp_plain rfl rfl ?_
            go_simp
            exact ⟨_, rfl, { bel := h.bel, siz := (by simpa using h.siz), kp := rk h.kp, k3 := rs h.k3, k5 := rs h.k5, k6 := rs h.k6, p0 := rp hi h.p0, p1 := rp hi h.p1, p2 := rp hi h.p2, p3 := rp hi h.p3, p4 := rp hi h.p4, p5 := rp hi h.p5, p6 := rp hi h.p6, p7 := rp hi h.p7, p8 := rp hi h.p8, p9 := rp hi h.p9, p10 := rp hi h.p10, p11 := rp hi h.p11, p12 := rp hi h.p12, p13 := rp hi h.p13, p14 := rp hi h.p14, p15 := rp hi h.p15, p16 := rp hi h.p16, p17 := rp hi h.p17, p18 := rp hi h.p18, p19 := rp hi h.p19, p20 := rp hi h.p20, p21 := rp hi h.p21, p22 := rp hi h.p22, p23 := rp hi h.p23, p24 := fun _ => set_same (by have := h.siz; omega) }⟩
        case gendc =>
          intro d a wc hd hI hall
          obtain ⟨t, rfl, h⟩ := hI
          have hdn : ∀ j, j < 25 → dn d j := fun j hj => dn_all hd hall hj
          have hd : ∀ j, (_ : j < 25 := by decide) → dn d j := fun j hj => hdn j hj
          have hfe := frame_eq [(19, _), (20, _), (21, _), (22, _), (23, _), (24, _), (25, _), (26, _), (27, _), (28, _), (29, _), (30, _), (31, _), (32, _), (33, _), (34, _), (35, _), (36, _), (37, _), (38, _), (39, _), (40, _), (41, _), (42, _), (43, _)] (h.siz.trans rfl) h.kp rfl ⟨h.p0 (hd 0), h.p1 (hd 1), h.p2 (hd 2), h.p3 (hd 3), h.p4 (hd 4), h.p5 (hd 5), h.p6 (hd 6), h.p7 (hd 7), h.p8 (hd 8), h.p9 (hd 9), h.p10 (hd 10), h.p11 (hd 11), h.p12 (hd 12), h.p13 (hd 13), h.p14 (hd 14), h.p15 (hd 15), h.p16 (hd 16), h.p17 (hd 17), h.p18 (hd 18), h.p19 (hd 19), h.p20 (hd 20), h.p21 (hd 21), h.p22 (hd 22), h.p23 (hd 23), h.p24 (hd 24), trivial⟩
          simp only [List.foldl_cons, List.foldl_nil, List.setIfInBounds_toArray, List.set_cons_succ, List.set_cons_zero] at hfe
          have hbc := h.bel
          subst hfe
          clear h hdn hd hall
          have hbw := hbc
          have HXR := Lib.hid (HRS.out.trans (hbc.mono HRS.out.size))
          have HBX := Lib.hid (HBS.out.trans (hbc.mono HBS.out.size))
          clear hbc
          obtain ⟨n0, n1, n2, n3⟩ := CVS.out wc hbw
          obtain ⟨m0, m1, m2, m3⟩ := CUR.out wc HXR.out
          have HOX := Lib.hid (keep_own HOK.out HXR.out)
          have z3 : wc.frozen? ⟨b, m * 4 + 3, none⟩ = false := own_free HOX.out (m * 4 + 3)
          have HBN : Hid (Below w2.heap.size w2 (wc.setCell ⟨b, m * 4 + 3, none⟩ (.int .i64 (max hu hv))).drew) := Lib.hid ((HBX.out.setCell (p := ⟨b, m * 4 + 3, none⟩) (HOX.out.lt b rfl).1 _).drew)
          have HON : Hid ((wc.setCell ⟨b, m * 4 + 3, none⟩ (.int .i64 (max hu hv))).drew.ownsRow w2.heap.size 60 4 (.slice (some ⟨b, 0, none⟩) (m + 1) cv) (m + 1) ((r ++ [(⟨ku, su, lu, max hu hv⟩ : Sg.Value)]).flatMap encValue)) := Lib.hid (keep_own (own_last (max hu hv) HMR.out.symm HOX.out) (Below.refl _ _).drew)
          go_upto_region 9 with fail
          go_region
          generalize hwn : World.drew _ = wn
          rw [hwn] at HBN HON
          clear hwn m0 m1 m2 m3 n0 n1 n2 n3 z3
          go_wp2_with fail
          go_roundg (S.length - (k + 1))
          case measure => omega
          case rel => exact ⟨k + 1, r ++ [⟨ku, su, lu, max hu hv⟩], by omega, rfl, by go_num, HBN.out, by rw [own_lenM HMR.out]; exact HON.out, HNX.out⟩
    · have HE : Hid (q = Sg.tidiedV L) := Lib.hid (by
        rw [← HTV.out, ← hq, List.take_of_length_le (by omega)])
      have HBF := Lib.hid (HB2.out.trans (hbel.mono HB2.out.size))
      clear hq
      go_wp2_with fail
      go_ret
      exact ⟨_, rfl, by rw [← HE.out]; exact hown.mono HB2.out.size, HBF.out⟩
end Go.Proofs.YtkmimjngmfdpmaaGreatDoor
