/- Rows of the call's own, and slices that read as lists.; The reference's Copy: an equal lexicon in new memory. Made by gen_copy.py. Contracts of the leaf functions. -/
import Derived.Test.YtkmimjngmfdpmaaGreatDoorMpRegion
import Derived.Maps.AppendAt
import Derived.Deep.AppendLies
import Derived.RegionTactic
import Derived.OwnWalk
import Derived.Deep.Light
import Derived.Test.YtkmimjngmfdpmaaGreatDoorProg
import Derived.WalkKit
import Derived.WalkLawsBesides
import Derived.WalkSpells
import Derived.Lib.Hide
namespace Go.Proofs.YtkmimjngmfdpmaaGreatDoor
open Go.RowKit

section
variable {α : Type} {enc : α → List Value} {size : Nat}
theorem flat_len (hu : ∀ x, (enc x).length = size) (xs : List α) : (xs.flatMap enc).length = xs.length * size := by
  induction xs with
  | nil => simp
  | cons x r ih => rw [List.flatMap_cons, List.length_append, hu, ih, List.length_cons, Nat.succ_mul, Nat.add_comm]
theorem flat_at (hu : ∀ x, (enc x).length = size) : ∀ (xs : List α) (i : Nat) (x : α), xs[i]? = some x → ∀ (j : Nat) (u : Value), (enc x)[j]? = some u → (xs.flatMap enc)[i * size + j]? = some u := by
  intro xs
  induction xs with
  | nil => intro i x h; simp at h
  | cons y r ih =>
    intro i x h j u hj
    rw [List.flatMap_cons]
    cases i with
    | zero =>
      simp at h
      subst h
      have hl : j < (enc y).length := (List.getElem?_eq_some_iff.1 hj).1
      rw [Nat.zero_mul, Nat.zero_add, List.getElem?_append_left hl]
      exact hj
    | succ i =>
      simp at h
      rw [List.getElem?_append_right (by rw [hu, Nat.succ_mul]; omega), hu]
      have : (i + 1) * size + j - size = i * size + j := by rw [Nat.succ_mul]; omega
      rw [this]
      exact ih i x h j u hj
theorem flat_inv (hu : ∀ x, (enc x).length = size) : ∀ (xs : List α) (k : Nat) (u : Value), (xs.flatMap enc)[k]? = some u → ∃ i j x, xs[i]? = some x ∧ (enc x)[j]? = some u ∧ k = i * size + j := by
  intro xs
  induction xs with
  | nil => intro k u h; simp at h
  | cons y r ih =>
    intro k u h
    rw [List.flatMap_cons] at h
    by_cases hk : k < size
    · rw [List.getElem?_append_left (by rw [hu]; exact hk)] at h
      exact ⟨0, k, y, by simp, h, by simp⟩
    · rw [List.getElem?_append_right (by rw [hu]; omega), hu] at h
      obtain ⟨i, j, x, h1, h2, h3⟩ := ih _ _ h
      exact ⟨i + 1, j, x, by simpa using h1, h2, by rw [Nat.succ_mul]; omega⟩
theorem addr_add (b off n : Nat) : (⟨b, off, none⟩ : Addr).add n = ⟨b, off + n, none⟩ := by
  unfold Addr.add
  split
  · subst_vars; rfl
  · rfl

/-- What the call owns reads as a list. -/
theorem rds_of_own {w : World} {base : Nat} {e : TypeId} {v : Value} {xs : List α} (hu : ∀ x, (enc x).length = size) (h : w.ownsRow base e size v xs.length (xs.flatMap enc)) : RdS w w.heap.size size enc v xs := by
  obtain ⟨_, h2⟩ := id h
  rcases h2 with ⟨rfl, h0⟩ | ⟨g, cap, cur, rfl, hg, hh, hle, hm, hs, ht⟩
  · exact ⟨none, 0, by rw [h0], by omega, by omega, fun hp => by omega⟩
  · refine ⟨some ⟨g, 0, none⟩, cap, rfl, hle, by simpa [maxLen] using hm, fun _ => ⟨g, 0, rfl, ?_, fun i x hx j u hj => ?_⟩⟩
    · exact (h.lt g rfl).2
    · have := h.cells rfl (i * size + j) u (flat_at hu xs i x hx j u hj)
      rw [addr_add] at this
      rw [← this, Nat.add_assoc]

variable {P : Program} (w : World)
theorem append_of_none (base : Nat) (t ty e : TypeId) (i : TypeInfo) (ht : P.underlying t = some (.slice e)) (hi : P.info? e = some i)
    (v : Value) (n : Nat) (xs : List Value) (hown : w.ownsRow base e size v n xs) (c : Nat) : (Builtin.append_ #[t, t] ty #[v, .slice none 0 c]).run P w = .ok v w := by
  rcases hown.2 with ⟨rfl, rfl⟩ | ⟨g, cap, cur, rfl, _, _, hnc, _⟩
  · simp [Builtin.append_, run_underlying ht, sizeOf, typeInfo, hi, Builtin.lenOf, Builtin.firstCells]
  · simp [Builtin.append_, run_underlying ht, sizeOf, typeInfo, hi, Builtin.lenOf, Builtin.firstCells, hnc, storeCells]

/-- append of a slice that reads as a list (nil, too) onto a row of the call's own -/
theorem run_append_rd (base : Nat) (t ty e : TypeId) (i : TypeInfo) (z : Value) (size bytes : Nat) (hu : ∀ x, (enc x).length = size) (h1 : ∀ x, ∀ u ∈ enc x, u.oneCell' = true)
    (ht : P.underlying t = some (.slice e)) (hi : P.info? e = some i) (hz : i.zero = some z)
    (hsize : i.size = size) (hby : i.bytes = bytes) (hzs : z.cells.size = size) (hsz : 0 < size)
    (v : Value) (n : Nat) (xs : List Value) (hown : w.ownsRow base e size v n xs) (B : Nat) (s : Value) (ys : List α) (hr : RdS w B size enc s ys)
    (h63 : n + ys.length ≤ maxLen) (hbytes : (n + ys.length) * bytes ≤ 140737488355328) (hbase : base ≤ w.heap.size) :
    ∃ v' w', (Builtin.append_ #[t, t] ty #[v, s]).run P w = .ok v' w' ∧ w'.ownsRow base e size v' (n + ys.length) (xs ++ ys.flatMap enc) ∧ w.grownBy w' v.ownBlock ∧
      (v'.ownBlock = v.ownBlock ∨ v'.ownBlock = some w.heap.size) := by
  obtain ⟨A, c, rfl, hl, hc, hh⟩ := hr
  have h1' : ∀ u ∈ ys.flatMap enc, u.oneCell' = true := by
    intro u hm
    obtain ⟨x, _, hx⟩ := List.mem_flatMap.1 hm
    exact h1 x u hx
  cases hA : A with
  | none =>
    have h0 : ys = [] := by
      cases ys with
      | nil => rfl
      | cons y r =>
        obtain ⟨b, off, h, _⟩ := hh (by simp)
        rw [hA] at h
        cases h
    subst h0
    exact ⟨v, w, append_of_none w base t ty e i ht hi v n xs hown c, by simpa using hown, World.grownBy.refl w _, .inl rfl⟩
  | some a =>
    have hn : ∀ j u, (ys.flatMap enc)[j]? = some u → w.cell? (a.add j) = some u := by
      intro j u hj
      obtain ⟨i', j', x, hx, hj', rfl⟩ := flat_inv hu ys j u hj
      obtain ⟨b, off, hA', hb, hcell⟩ := hh (by
        have := (List.getElem?_eq_some_iff.1 hx).1
        omega)
      rw [hA] at hA'
      cases hA'
      rw [addr_add, ← Nat.add_assoc]
      exact hcell i' x hx j' u hj'
    obtain ⟨v', w', hrun, h2, h3, _, h5⟩ := run_append_own_at (P := P) w base t ty e i z size bytes ht hi hz hsize hby hzs hsz v n xs hown a ys.length c (ys.flatMap enc) (flat_len hu ys) hn h1' h63 hbytes hbase
    exact ⟨v', w', hrun, h2, h3, h5⟩
end

section
variable {α : Type} {enc : α → List Value} {P : Program} {w : World}
theorem wp_append_rd {o : Oper} {a : Act} {K : Act → World → Prop} {Q : Exit → Act → World → Prop} (s x : Operand) (t : TypeId)
    (ho : o.op = .call { callee := .builtin .append, args := #[s, x], argTypes := #[t, t] })
    (base : Nat) (e : TypeId) (i : TypeInfo) (z : Value) (size bytes : Nat) (hu : ∀ x, (enc x).length = size) (h1 : ∀ x, ∀ u ∈ enc x, u.oneCell' = true)
    (ht : P.underlying t = some (.slice e)) (hi : P.info? e = some i) (hz : i.zero = some z)
    (hsize : i.size = size) (hby : i.bytes = bytes) (hzs : z.cells.size = size) (hsz : 0 < size)
    (v : Value) (n : Nat) (xs : List Value) (hs : a.eval s = v) (hown : w.ownsRow base e size v n xs) (B : Nat) (sv : Value) (ys : List α) (hx : a.eval x = sv) (hr : RdS w B size enc sv ys)
    (h63 : n + ys.length ≤ maxLen) (hbytes : (n + ys.length) * bytes ≤ 140737488355328) (hbase : base ≤ w.heap.size)
    (h : ∀ v' w', w'.ownsRow base e size v' (n + ys.length) (xs ++ ys.flatMap enc) → w.grownBy w' v.ownBlock → (v'.ownBlock = v.ownBlock ∨ v'.ownBlock = some w.heap.size) → K (a.put o.dst v') w') : o.wp P a w K Q := by
  obtain ⟨v', w', hrun, h2, h3, h4⟩ := run_append_rd (P := P) w base t o.type e i z size bytes hu h1 ht hi hz hsize hby hzs hsz v n xs hown B sv ys hr h63 hbytes hbase
  unfold Oper.wp execOp
  simp only [ho, resolve, invoke, builtin, Sem.run_bind, Sem.run_pure, Result.andThen_ok, List.map_toArray, List.map_cons, List.map_nil, hs, hx, hrun]
  exact h v' w' h2 h3 h4

/-- two rows of element types that differ do not share a block -/
theorem own_apart {base base' : Nat} {e e' : TypeId} {size size' n n' : Nat} {v v' : Value} {xs xs' : List Value} (h : w.ownsRow base e size v n xs) (h' : w.ownsRow base' e' size' v' n' xs') (hne : e ≠ e') : v.ownBlock = none ∨ v.ownBlock ≠ v'.ownBlock := by
  rcases h.2 with ⟨rfl, _⟩ | ⟨g, cap, cur, rfl, _, hh, _⟩
  · exact .inl rfl
  · right
    rcases h'.2 with ⟨rfl, _⟩ | ⟨g', cap', cur', rfl, _, hh', _⟩
    · simp [Value.ownBlock]
    · intro he
      have : g = g' := by simpa [Value.ownBlock] using he
      subst this
      rw [hh] at hh'
      injection hh' with hh'
      injection hh' with _ h2
      exact hne h2
end

theorem len_int (e : Int) : (encInt e).length = 1 := rfl
theorem one_int (e : Int) : ∀ u ∈ encInt e, u.oneCell' = true := by intro u hu; simp [encInt] at hu; subst hu; rfl




theorem info_int : (Tryz.prog.info? 3).map (fun i => (i.zero, i.size, i.bytes)) = some (some (.int .i64 0), 1, 8) := by kernel_rfl
end Go.Proofs.YtkmimjngmfdpmaaGreatDoor
namespace Go.Proofs.YtkmimjngmfdpmaaGreatDoor
open Go.RowKit

def dn (d : Array Bool) (j : Nat) : Prop := d.getD j false = true
theorem dn_of {d : Array Bool} {i j : Nat} (hi : i < d.size) (h : dn (d.setIfInBounds i true) j) (hne : j ≠ i) : dn d j :=
  ((getD_set hi).1 h).resolve_left hne

theorem dn_up {d : Array Bool} {i j : Nat} (h : dn d j) : dn (d.setIfInBounds i true) j := by
  by_cases hi : i < d.size
  · exact (getD_set hi).2 (.inr h)
  · unfold dn at *; rwa [Array.setIfInBounds_eq_of_size_le (by omega)]
theorem own_form {w : World} {base : Nat} {e : TypeId} {size n : Nat} {v : Value} {xs : List Value} (h : w.ownsRow base e size v n xs) : ∃ A c, v = .slice A n c := by
  rcases h.2 with ⟨rfl, rfl⟩ | ⟨g, cap, cur, rfl, _⟩
  · exact ⟨_, _, rfl⟩
  · exact ⟨_, _, rfl⟩
theorem not_dn {d : Array Bool} {i : Nat} (hi : i < d.size) (h : d.getD i true = false) : ¬ dn d i := by
  unfold dn; simp [Array.getD, hi] at h ⊢; simpa using h
theorem dn_self {d : Array Bool} {i : Nat} (hi : i < d.size) : dn (d.setIfInBounds i true) i := (getD_set hi).2 (.inl rfl)



section
variable {w : World} {v0 v1 v2 : Value} {x : Lx.Lexicon}


end
end Go.Proofs.YtkmimjngmfdpmaaGreatDoor
namespace Go.Proofs.YtkmimjngmfdpmaaGreatDoor
open Go.RowKit

def RetB (b : Bool) (w : World) (e : Ending) (w' : World) : Prop := e = .returned (.bool b) ∧ w = w'




theorem r1between_any (c lo hi : Int) (w : World) : Calls Tryz.prog 80 #[.int .u8 c, .int .u8 lo, .int .u8 hi] w (RetB (decide (lo ≤ c) && decide (c ≤ hi)) w) := by
  go_enter Tryz.func80, Tryz.ntmps80
  go_wp2
  · go_ret
    exact ⟨by simp [*] <;> omega, rfl⟩
  · go_ret
    exact ⟨by simp [*] <;> omega, rfl⟩

theorem take_succ_all (p : UInt8 → Bool) (s : ByteArray) (k : Nat) (h : k < s.size) : (s.data.toList.take (k + 1)).all p = ((s.data.toList.take k).all p && p s[k]) := by
  rw [List.take_succ_eq_append_getElem (by simpa using h), List.all_append]
  simp
  rfl

theorem not_all_of (p : UInt8 → Bool) (s : ByteArray) (k : Nat) (h : k < s.size) (hp : p s[k] = false) : s.data.toList.all p = false := by
  rw [List.all_eq_false]
  exact ⟨s[k], by simp [ByteArray.getElem_eq_getElem_data], by simp [hp]⟩

theorem ret_bool {a b : Bool} (h : a = b) : Ending.returned (.bool a) = .returned (.bool b) := by rw [h]
theorem ret_int {k : IntKind} {a b : Int} (h : a = b) : Ending.returned (.int k a) = .returned (.int k b) := by rw [h]

theorem letter_in (c : UInt8) : Lx.letter c = ((decide ((97 : Int) ≤ (c.toNat : Int)) && decide ((c.toNat : Int) ≤ 122)) || (decide ((65 : Int) ≤ (c.toNat : Int)) && decide ((c.toNat : Int) ≤ 90))) := by
  rw [Bool.eq_iff_iff]; simp [Lx.letter, UInt8.le_iff_toNat_le]; omega
theorem small_in (c : UInt8) : Lx.small c = (decide ((97 : Int) ≤ (c.toNat : Int)) && decide ((c.toNat : Int) ≤ 122)) := by
  rw [Bool.eq_iff_iff]; simp [Lx.small, UInt8.le_iff_toNat_le]; omega

theorem r1Sounds_any (s : ByteArray) (w : World) (hs : s.size ≤ maxLen) : Calls Tryz.prog 119 #[.string s] w (RetB (Lx.allL s) w) := by
  unfold maxLen at hs
  go_enter Tryz.func119, Tryz.ntmps119
  go_wp2
  go_loop [3] (fun i => ∃ k : Nat, k ≤ s.size ∧ i = .int .i64 k ∧ (s.data.toList.take k).all Lx.letter = true) (fun i => s.size - (intOf i).toNat)
  case atStart => exact ⟨0, Nat.zero_le _, rfl, rfl⟩
  case round =>
    obtain ⟨k, hk, rfl, hal⟩ := hrel
    have HAL := Lib.hid hal
    clear hal
    by_cases hlt : k < s.size
    · have HL := Lib.hid (letter_in s[k])
      cases h1 : (decide ((97 : Int) ≤ (s[k].toNat : Int)) && decide ((s[k].toNat : Int) ≤ 122))
      · cases h2 : (decide ((65 : Int) ≤ (s[k].toNat : Int)) && decide ((s[k].toNat : Int) ≤ 90))
        · have HN := Lib.hid (not_all_of Lx.letter s k hlt (by rw [HL.out, h1, h2]; rfl))
          have H1 := Lib.hid h1
          have H2 := Lib.hid h2
          clear h1 h2
          go_wp2_with fail
          refine (r1between_any _ _ _ _).mono ?_
          rw [H1.out]
          rintro e w' ⟨rfl, rfl⟩
          go_wp2_with fail
          refine (r1between_any _ _ _ _).mono ?_
          rw [H2.out]
          rintro e w' ⟨rfl, rfl⟩
          go_wp2_with fail
          go_ret
          exact ⟨ret_bool HN.out.symm, rfl⟩
        · have HN := Lib.hid (take_succ_all Lx.letter s k hlt)
          have H1 := Lib.hid h1
          have H2 := Lib.hid h2
          clear h1 h2
          go_wp2_with fail
          refine (r1between_any _ _ _ _).mono ?_
          rw [H1.out]
          rintro e w' ⟨rfl, rfl⟩
          go_wp2_with fail
          refine (r1between_any _ _ _ _).mono ?_
          rw [H2.out]
          rintro e w' ⟨rfl, rfl⟩
          go_wp2_with fail
          go_round
          case rel => exact ⟨k + 1, by omega, by go_num, by rw [HN.out, HAL.out, HL.out, H1.out, H2.out]; rfl⟩
          case measure => simp [intOf]; omega
      · have HN := Lib.hid (take_succ_all Lx.letter s k hlt)
        have H1 := Lib.hid h1
        clear h1
        go_wp2_with fail
        refine (r1between_any _ _ _ _).mono ?_
        rw [H1.out]
        rintro e w' ⟨rfl, rfl⟩
        go_wp2_with fail
        go_round
        case rel => exact ⟨k + 1, by omega, by go_num, by rw [HN.out, HAL.out, HL.out, H1.out]; rfl⟩
        case measure => simp [intOf]; omega
    · go_wp2_with fail
      go_ret
      have := HAL.out
      rw [List.take_of_length_le (by simp; omega)] at this
      exact ⟨ret_bool (by rw [Lx.allL, this]), rfl⟩

def RetBB (b : Bool) (w : World) (e : Ending) (w' : World) : Prop := e = .returned (.bool b) ∧ Below w.heap.size w w'


theorem r1Small_any (s : ByteArray) (w : World) (hs : s.size ≤ maxLen) : Calls Tryz.prog 118 #[.string s] w (RetB (Lx.allS s) w) := by
  unfold maxLen at hs
  go_enter Tryz.func118, Tryz.ntmps118
  go_wp2
  go_loop [3] (fun i => ∃ k : Nat, k ≤ s.size ∧ i = .int .i64 k ∧ (s.data.toList.take k).all Lx.small = true) (fun i => s.size - (intOf i).toNat)
  case atStart => exact ⟨0, Nat.zero_le _, rfl, rfl⟩
  case round =>
    obtain ⟨k, hk, rfl, hal⟩ := hrel
    have HAL := Lib.hid hal
    clear hal
    by_cases hlt : k < s.size
    · have HL := Lib.hid (small_in s[k])
      cases h1 : (decide ((97 : Int) ≤ (s[k].toNat : Int)) && decide ((s[k].toNat : Int) ≤ 122))
      · have HN := Lib.hid (not_all_of Lx.small s k hlt (by rw [HL.out, h1]))
        have H1 := Lib.hid h1
        clear h1
        go_wp2_with fail
        refine (r1between_any _ _ _ _).mono ?_
        rw [H1.out]
        rintro e w' ⟨rfl, rfl⟩
        go_wp2_with fail
        go_ret
        exact ⟨ret_bool HN.out.symm, rfl⟩
      · have HN := Lib.hid (take_succ_all Lx.small s k hlt)
        have H1 := Lib.hid h1
        clear h1
        go_wp2_with fail
        refine (r1between_any _ _ _ _).mono ?_
        rw [H1.out]
        rintro e w' ⟨rfl, rfl⟩
        go_wp2_with fail
        go_round
        case rel => exact ⟨k + 1, by omega, by go_num, by rw [HN.out, HAL.out, HL.out, H1.out]; rfl⟩
        case measure => simp [intOf]; omega
    · go_wp2_with fail
      go_ret
      have := HAL.out
      rw [List.take_of_length_le (by simp; omega)] at this
      exact ⟨ret_bool (by rw [Lx.allS, this]), rfl⟩







end Go.Proofs.YtkmimjngmfdpmaaGreatDoor
